/- Texts of a claim, merged. -/
import Derived.Test.YtekmbcbgknmhiaaGreatDoorLa6
import Derived.KernelRfl
import Derived.ProofKit
import Derived.OpenShut
import Derived.Carry
import Derived.Deep.Slices
import Derived.Test.YtekmbcbgknmhiaaGreatDoorRows
import Derived.Lib.LaidU8T
import Derived.Lib.LaidTab
import Derived.Stop.LaidErr
import Derived.LaidMore
import Derived.MakeChecks
import Derived.LaidHandle
set_option linter.unusedVariables false
set_option linter.unusedSimpArgs false
open _root_.Go.Proofs.Tryz renaming underlying9→AaG,underlying23→AaQ,underlying28→AaR,underlying5→AaS,underlying22→AaT,underlying64→AaU,underlying26→AaY,underlying58→Aat,underlying3→Aau,underlying42→Ab7,underlying66→Ab8,underlying52→Ab9,underlying50→AbA,underlying43→AbB,underlying4→AbC,underlying109→Aba,underlying46→Abh,underlying62→Abo,underlying94→Abp,underlying137→Abv,underlying24→Abx,underlying98→Abz
noncomputable section
namespace Go.Proofs.YtekmbcbgknmhiaaGreatDoor
open Go Go.E Go.RowKit Go.L
set_option maxHeartbeats 1000000
set_option maxRecDepth 10000
open _root_.Go.Proofs.Tryz
def IY(a:Int)(b:List (((List Int))×(List Int)×(List Int)))(c:List Go.L.Pv)(d:List Aas):Option (((List Go.L.Pv)×(List Aas)×(List (((List Int))×(List Int)×(List Int)))×Int) ⊕ (((Int×(List (Aas×(List (Int×Int)))))×(Int×(List ((Aas×Int×Int×Aas)×(List Int))))×(List (((List Int))×(List Int)×(List Int))))×(Int×Int))):=
 AY (BJ (a+(1:Int))) (some (Sum.inl (c,d,b,(a+(1:Int)))))
def Hr(a:List (((List Int))×(List Int)×(List Int)))(b:Int)(c:Int)(d:Int)(e:List (Aas×(List (Int×Int))))(f:Int)(g:List ((Aas×Int×Int×Aas)×(List Int))):Option (((Int×(List (Aas×(List (Int×Int)))))×(Int×(List ((Aas×Int×Int×Aas)×(List Int))))×(List (((List Int))×(List Int)×(List Int))))×(Int×Int)):=
 if b=(0:Int)∧c=(0:Int) then some (((d,e),(f,g),a),((0:Int),(0:Int))) else none
def IZ(d:List Go.L.Pv)(e:List Aas)(c:List (((List Int))×(List Int)×(List Int))):Option (((Int×(List (Aas×(List (Int×Int)))))×(Int×(List ((Aas×Int×Int×Aas)×(List Int))))×(List (((List Int))×(List Int)×(List Int))))×(Int×Int)):=
 Option.bind (L3 e) (fun a=>if a.2.1=(0:Int)∧a.2.2=(0:Int) then Option.bind (K8 d) (fun b=>(Hr c) b.2.1 b.2.2 a.1.1 a.1.2 b.1.1 b.1.2) else(Hr c) a.2.1 a.2.2 a.1.1 a.1.2 (0:Int) ([]))
def I2(a0:List (Aas×Go.L.Pv)):(List Go.L.Pv)×(List Aas)×(List (((List Int))×(List Int)×(List Int)))×Int→Option (((List Go.L.Pv)×(List Aas)×(List (((List Int))×(List Int)×(List Int)))×Int) ⊕ (((Int×(List (Aas×(List (Int×Int)))))×(Int×(List ((Aas×Int×Int×Aas)×(List Int))))×(List (((List Int))×(List Int)×(List Int))))×(Int×Int))):=fun⟨c,d,e,a⟩=>
 if a<(a0.length:Int) then AY (0≤a∧a<(a0.length:Int)) (Option.bind (JY ((a0.getD a.toNat default).1)) (fun b=>if b.2.1=(0:Int)∧b.2.2=(0:Int) then Option.bind (HV ((a0.getD a.toNat default).2)) (fun f=>if f.1=(0:Int)∧f.2=(0:Int) then AY (Go.E.JE 72 (e.length+([(b.1.1,b.1.2.1,b.1.2.2)]).length)) (AY (Go.E.JE 24 (d.length+([(a0.getD a.toNat default).1]).length)) (AY (Go.E.JE 88 (c.length+([((a0.getD a.toNat default).2)]).length)) ((IY a) (e++[(b.1.1,b.1.2.1,b.1.2.2)]) (c++[((a0.getD a.toNat default).2)]) (d++[(a0.getD a.toNat default).1])))) else none) else none)) else Option.map Sum.inr (IZ c d e)
def Kt(a0:List (Aas×Go.L.Pv))(s:(List Go.L.Pv)×(List Aas)×(List (((List Int))×(List Int)×(List Int)))×Int):Option (((Int×(List (Aas×(List (Int×Int)))))×(Int×(List ((Aas×Int×Int×Aas)×(List Int))))×(List (((List Int))×(List Int)×(List Int))))×(Int×Int)):=Go.L.run (I2 a0) s
def KB(a0:List (Aas×Go.L.Pv)):Option (((Int×(List (Aas×(List (Int×Int)))))×(Int×(List ((Aas×Int×Int×Aas)×(List Int))))×(List (((List Int))×(List Int)×(List Int))))×(Int×Int)):=
 if(64:Int)<(a0.length:Int) then none else(Kt a0) (([]:List Go.L.Pv),([]:List Aas),([]:List (((List Int))×(List Int)×(List Int))),(0:Int))
theorem Qu(w:World)(H:PH)(hH:Le H (hp w))(hU:Dt H){a0:List (Aas×Go.L.Pv)}{eu:Value}(iw:AI (.pair (.vec .byte) .tree) H eu (a0)){r:((Int×(List (Aas×(List (Int×Int)))))×(Int×(List ((Aas×Int×Int×Aas)×(List Int))))×(List (((List Int))×(List Int)×(List Int))))×(Int×Int)}(h:KB a0=some r):
  Ok Tryz.prog 20 [eu] w (fun v w'=>Ext w w'∧∃ u0 u1 u2,v=.tuple #[.agg #[No r.1.1.1,u0,No r.1.2.1.1,u1,u2],.agg #[No r.2.1,No r.2.2]]∧AI (.pair .st (.vec (.pair (.int .i64) (.int .i64)))) (un H (nw w w')) u0 (r.1.1.2)∧AI (.pair (.pair .st (.pair (.int .i64) (.pair (.int .i64) .st))) (.vec (.int .i64))) (un H (nw w w')) u1 (r.1.2.1.2)∧Co 98 (.pair (.vec (.int .i64)) (.pair (.vec (.int .i64)) (.vec (.int .i64)))) H w w' u2 (r.1.2.2)):=by
 refine A5 (n:=89) [(0,eu)] func20 rfl rfl rfl rfl rfl ?_;have hL:=AR.start w;refine Al<|AJ MJ rfl rfl hL fun w1 b1 nt o1 _=>AJ AT rfl rfl nt fun w2 b2 nu o2 _=>Ad<|A8<|Bl 1 rfl<|Af (Bn rfl Ab7 iw) rfl<|AB 1 rfl<|Bg rfl (fun jg=>?_) (fun jg=>?_)
 ·have h:=A1 jg h
  cases h
 have h:=A2 jg h;refine Av<|Ao<|Al<|AJ MJ rfl rfl nu fun w6 b6 nv o3 _=>Ad<|Bl 1 rfl ?_;obtain⟨nx,o4,jh⟩:=Ck (.vec .byte) H 23 nv;refine Ad<|Bl 1 rfl ?_;obtain⟨ny,mi,ji⟩:=Ck .tree H 64 nx;refine Ad<|Bm (σ:=(List Go.L.Pv)×(List Aas)×(List (((List Int))×(List Int)×(List Int)))×Value×(List Value)×Value×(List Value)×Value×(List Value)) (fun⟨ev,ew,a5,el,cc,em,cd,bd,a1⟩=>[(2,(Aam b1)),(3,(Aam b2)),(4,(Aam b6)),(5,em),(6,el)]) (fun⟨ev,ew,a5,el,cc,em,cd,bd,a1⟩ wr=>DM w [.row (bd) 98 3 (a5).length (a1),.row (el) 64 5 (ev).length (cc),.row (em) 23 1 (ew).length (cd),.box b6 [No (0:Int),Aak,No (0:Int),Aak,bd] 52,.box b2 [No (0:Int),No (0:Int)] 28,.box b1 [No (0:Int),Aak,No (0:Int),Aak,Aak] 52] wr fun Oz=>AM (.pair (.vec (.int .i64)) (.pair (.vec (.int .i64)) (.vec (.int .i64)))) (gz H w wr Oz) (a5) (a1)∧AM .tree (gz H w wr Oz) (ev) (cc)∧AM (.vec .byte) (gz H w wr Oz) (ew) (cd)∧IZ ev ew a5=some r) ?_ ?_
 ·refine Bl 1 rfl<|Af (Bn rfl Ab7 iw) rfl<|AB 1 rfl<|A4 ?_;obtain⟨j3,ig,j4⟩:=Ck (.pair (.vec (.int .i64)) (.pair (.vec (.int .i64)) (.vec (.int .i64)))) H 98 ny;obtain⟨ix,h⟩:=Bb h;have jh:=jh.mono (Ab hH (mi.trans ig));have ji:=ji.mono (Ab hH ig)
  refine Bu (σ:=(List Go.L.Pv)×(List Aas)×(List (((List Int))×(List Int)×(List Int)))×Int×Value×(List Value)×Value×(List Value)×Value×(List Value)×Nat) (fun⟨x,y,aa,b,a2,av,a3,aw,ap,ax,n⟩=>[(2,(Aam b1)),(3,(Aam b2)),(4,(Aam b6)),(5,a3),(6,a2),(18,eu),(19,No (a0.length:Int)),(20,No b)]) (fun⟨x,y,aa,b,a2,av,a3,aw,ap,ax,n⟩ wr=>DM w [.row (ap) 98 3 (aa).length (ax),.row (a2) 64 5 (x).length (av),.row (a3) 23 1 (y).length (aw),.box b6 [No (0:Int),Aak,No (0:Int),Aak,ap] 52,.box b2 [No (0:Int),No (0:Int)] 28,.box b1 [No (0:Int),Aak,No (0:Int),Aak,Aak] 52] wr fun Oz=>AM (.pair (.vec (.int .i64)) (.pair (.vec (.int .i64)) (.vec (.int .i64)))) (gz H w wr Oz) (aa) (ax)∧AM .tree (gz H w wr Oz) (x) (av)∧AM (.vec .byte) (gz H w wr Oz) (y) (aw)∧FM (I2 a0) n (x,y,aa,b)=some r) (fun⟨x,y,aa,b,a2,av,a3,aw,ap,ax,n⟩=>n) (([]:List Go.L.Pv),([]:List Aas),([]:List (((List Int))×(List Int)×(List Int))),(0:Int),Aak,[],Aak,[],Aak,[],ix) (.cons rfl (.cons rfl (.cons rfl (.cons rfl (.cons rfl (.cons rfl (.cons rfl (.cons rfl (Sub.nil _))))))))) ⟨j3,j4,ji,jh,h⟩ ?_
  rintro⟨x,y,aa,b,a2,av,a3,aw,ap,ax,nn612⟩ nz ⟨en,ah,ae,af,h⟩;obtain⟨ix,mj,rfl,h,i1⟩:=Ba h;have e:=en.rG H;refine AD 1 rfl<|A8<|Bg rfl (fun gj=>?_) (fun gj=>?_)
  ·have h:=A1 gj h;refine Av<|Ao<|A8<|A4<|Bl 1 rfl ?_;obtain⟨i2,h⟩:=Ac h;refine Be rfl rfl Ab7 YE iw b.toNat (Int.toNat_of_nonneg i2.1).symm (AZ i2) rfl ?_;rintro o5 _ ⟨_,_,rfl,⟨e618v0,rfl,e618h0⟩,e618t1⟩ j5;obtain⟨_,_,rfl,rfl,⟨_,_,rfl,rfl,⟨_,_,rfl,⟨e618v3,rfl,e618h3⟩,⟨_,_,rfl,⟨e618v4,rfl,e618h4⟩,⟨e618v5,rfl,e618h5⟩⟩⟩⟩⟩:=Go.E.Rp.NF e618t1;refine Af (Cd rfl Ab8 rfl YE j5 (hH.trans en.arg)) rfl<|AJ YE rfl rfl en fun o6 iy j6 aj _=>Ar 1 rfl<|Ak 0 rfl rfl rfl YE j6 rfl rfl (AF e618h0.one (AF rfl (AF rfl (AF e618h3.one (AF e618h4.one (AF e618h5.one BM)))))) fun o7 be ak=>Ad<|Al<|Af (Ag rfl Ab8 rfl Fs (by decide)) rfl<|Af (Ah 0 rfl AaQ rfl be rfl rfl) rfl ?_;obtain⟨d,j7,h⟩:=Go.L.bind_some h;refine Ax rfl rfl be (P9 _ _ (As hH be) (e618h0.mono (Ai hH)) j7) ?_;rintro _ o8 ⟨ce,cf,cg,rfl,i9,ja,jb⟩ gk j8 al;have g:=i9.mono (Cj hH be gk);have k:=ja.mono (Cj hH be gk);have o:=jb.mono (Cj hH be gk);refine Ar 3 rfl<|AJ FQ rfl rfl j8 ?_;intro o9 iz j9 p _
   refine AJ AT rfl rfl j9 fun pa jj ka q _=>Ak 1 rfl rfl rfl FQ ka rfl rfl (AF g.one (AF k.one (AF o.one BM))) fun pb kb t=>Ak 0 rfl rfl rfl AT kb rfl rfl (AF rfl (AF rfl BM)) fun pc ch u=>Ad<|A8 ?_;have c:=ch.rG H;refine Al<|Af (AE 0 rfl AaR rfl AT ch rfl) rfl<|Af (AW rfl (fun _=>BL _)) rfl<|Af (Kv rfl rfl IC (LA _ _ _ _)) rfl<|Ad<|C9 rfl (fun gl=>?_) (fun gl=>?_)
   ·have h:=A2 gl h
    cases h
   have h:=A1 gl h;refine Av<|Ao<|A8<|Al<|Af (Ag rfl Ab8 rfl GL (by decide)) rfl<|Af (QN 2 5 rfl AaU rfl GL ch rfl rfl) rfl ?_;obtain⟨gm,kc,h⟩:=Go.L.bind_some h;refine Ax rfl rfl ch (Lx (a0:=((a0.getD b.toNat default).2)) _ _ (As hH ch) (e618h3.mono (Ai hH)) (e618h4.mono (Ai hH)) (e618h5.mono (Ai hH)) kc) ?_;rintro _ pd rfl n0 kd a6;refine AJ AT rfl rfl kd fun pe jk ke a7 _=>Ak 0 rfl rfl rfl AT ke rfl rfl (AF rfl (AF rfl BM)) fun pf gn a8=>Ad<|Al<|Af (AE 0 rfl AaR rfl AT gn rfl) rfl<|Af (AW rfl (fun _=>BL _)) rfl<|Af (Kv rfl rfl IC (LA _ _ _ _)) rfl<|Ad<|C9 rfl (fun go=>?_) (fun go=>?_)
   ·have h:=A2 go h
    cases h
   have h:=A1 go h;refine Av<|Ao ?_
   refine Aah (σ:=(List (((List Int))×(List Int)×(List Int)))×(List Go.L.Pv)×(List Aas)×Value×(List Value)×Value×(List Value)×Value×(List Value)) (fun⟨ef,eg,eh,ci,a9,cj,ba,ck,bb⟩=>[(2,(Aam b1)),(3,(Aam b2)),(4,(Aam b6)),(5,ck),(6,cj),(18,eu),(19,No (a0.length:Int)),(20,No b)]) (fun⟨ef,eg,eh,ci,a9,cj,ba,ck,bb⟩ wr=>DM w [.box jk [No gm.1,No gm.2] 28,.box jj [No d.2.1,No d.2.2] 28,.box iz [ce,cf,cg] 98,.box iy [e618v0,No (((a0.getD b.toNat default).2).f.1),No (((a0.getD b.toNat default).2).f.2.1),e618v3,e618v4,e618v5] 66,.row (ci) 98 3 (ef).length (a9),.row (cj) 64 5 (eg).length (ba),.row (ck) 23 1 (eh).length (bb),.box b6 [No (0:Int),Aak,No (0:Int),Aak,ci] 52,.box b2 [No (0:Int),No (0:Int)] 28,.box b1 [No (0:Int),Aak,No (0:Int),Aak,Aak] 52] wr fun Oz=>AI (.int .i64) (gz H w wr Oz) (ce) (d.1.1)∧AI (.int .i64) (gz H w wr Oz) (cf) (d.1.2.1)∧AI (.int .i64) (gz H w wr Oz) (cg) (d.1.2.2)∧AM (.pair (.vec (.int .i64)) (.pair (.vec (.int .i64)) (.vec (.int .i64)))) (gz H w wr Oz) (ef) (a9)∧AM .tree (gz H w wr Oz) (eg) (ba)∧AM (.vec .byte) (gz H w wr Oz) (eh) (bb)∧(IY b) ef eg eh=some mj) ?_ ?_
   ·refine Jj (L8 (I9 (SB (Qz (I9 (L8 Lo)))))) (fun z0 z=>Le (gz H w z0 [.box jk [No gm.1,No gm.2] 28,.box jj [No d.2.1,No d.2.2] 28,.box iz [ce,cf,cg] 98,.box iy [e618v0,No (((a0.getD b.toNat default).2).f.1),No (((a0.getD b.toNat default).2).f.2.1),e618v3,e618v4,e618v5] 66,.row (ap) 98 3 (aa).length (ax),.row (a2) 64 5 (x).length (av),.row (a3) 23 1 (y).length (aw),.box b6 [No (0:Int),Aak,No (0:Int),Aak,ap] 52,.box b2 [No (0:Int),No (0:Int)] 28,.box b1 [No (0:Int),Aak,No (0:Int),Aak,Aak] 52]) (hp z)∧z.heap[iz]? = some (.cells [ce,cf,cg].toArray 98 (0,0))∧z.heap[iy]? = some (.cells [e618v0,No (((a0.getD b.toNat default).2).f.1),No (((a0.getD b.toNat default).2).f.2.1),e618v3,e618v4,e618v5].toArray 66 (0,0))∧z.heap[b6]? = some (.cells [No (0:Int),Aak,No (0:Int),Aak,ap].toArray 52 (0,0))) mixed rfl (fun ad ph i3=>?_);have az:=gn.call i3;have bc:=AX gn i3;have a:=az.rG H;refine Lq ⟨a.trans (As hH az),az.at (i:=2) rfl,az.at (i:=3) rfl,az.at (i:=7) rfl⟩ fun kI804=>?_
    refine AG 0 ad kI804 (by kernel_rfl) rfl (fun _ _=>Ag rfl Ab9 rfl Jo (by decide)) rfl<|AG 1 ad kI804 (by kernel_rfl) rfl (fun _ hI=>IB rfl AbA rfl hI.2.2.2 rfl) rfl<|AG 2 ad kI804 (by kernel_rfl) rfl (fun _ hI=>KK rfl Abz rfl FQ hI.2.1) rfl<|AG 5 ad kI804 (by kernel_rfl) rfl (fun _ _=>Ae rfl) rfl<|AG 6 ad kI804 (by kernel_rfl) rfl (fun _ _=>Ag rfl Ab8 rfl Fs (by decide)) rfl<|AG 7 ad kI804 (by kernel_rfl) rfl (fun _ hI=>IB rfl AaQ rfl hI.2.2.1 rfl) rfl<|AG 10 ad kI804 (by kernel_rfl) rfl (fun _ _=>Ae rfl) rfl<|AG 11 ad kI804 (by kernel_rfl) rfl (fun _ _=>Ag rfl Ab8 rfl GL (by decide)) rfl<|AG 12 ad kI804 (by kernel_rfl) rfl (fun _ hI=>Xr 5 rfl AaU rfl GL hI.2.2.1 rfl) rfl<|NI3 (i:=3) (j:=8) (s:=13) (by kernel_rfl) rfl rfl rfl ?_ ?_ ?_
    ·have g:=g.mono (Ab hH (p.trans (q.trans (t.trans u))));have k:=k.mono (Ab hH (p.trans (q.trans (t.trans u))));have o:=o.mono (Ab hH (p.trans (q.trans (t.trans u))));have c:=c.trans (Ab hH (a6.trans (a7.trans (a8.trans bc))));refine Br (r:=(.pair (.vec (.int .i64)) (.pair (.vec (.int .i64)) (.vec (.int .i64))))) (l:=[(d.1.1,d.1.2.1,d.1.2.2)]) rfl (fun _=>OH _ _ _ _) rfl (show 1≤9223372036854775807 by decide) hH az (.c3 ⟨_,_,rfl,⟨_,rfl,((g.mono c).mono a)⟩,⟨_,_,rfl,⟨_,rfl,((k.mono c).mono a)⟩,⟨_,rfl,((o.mono c).mono a)⟩⟩⟩ .nil) ?_;intro pi pj n1 a4 jl am;have a:=a.trans (Ab hH jl);refine Bd ⟨a.trans (As hH a4),a4.at (i:=2) rfl,a4.at (i:=3) rfl,a4.at (i:=7) rfl⟩ fun kI806=>?_;refine NI3 (i:=4) (j:=8) (s:=13) (by kernel_rfl) rfl rfl rfl ?_ ?_ ?_
     ·obtain⟨ag,h⟩:=Ac h;have e:=e.trans (Ab hH (aj.trans (ak.trans (al.trans (p.trans (q.trans (t.trans u)))))));refine Bo (r:=(.pair (.vec (.int .i64)) (.pair (.vec (.int .i64)) (.vec (.int .i64))))) (l:=aa) (m:=[(d.1.1,d.1.2.1,d.1.2.2)]) 4 rfl rfl AbA FQ rfl (by decide) rfl hH a4 rfl (((ah.mono e).mono c).mono a) am ag ?_;intro i0 pk gp bf jm aq;have a:=a.trans (Ab hH jm);refine Bd ⟨a.trans (As hH bf),bf.at (i:=2) rfl,bf.at (i:=3) rfl,bf.at (i:=7) rfl⟩ fun kI809=>?_;refine AG 15 ad kI809 (by kernel_rfl) rfl (fun _ _=>Ag rfl Ab9 rfl Jo (by decide)) rfl<|Xd (i:=8) (j:=13) (by kernel_rfl) rfl rfl ?_ ?_
      ·refine Br (r:=(.vec .byte)) (l:=[(a0.getD b.toNat default).1]) rfl (fun _=>K1 _ e618h0.one _) rfl (show 1≤9223372036854775807 by decide) hH bf (.c1 ⟨_,rfl,(e618h0.mono (Ai hH))⟩ .nil) ?_;intro pl pm n2 bg ex eo;have a:=a.trans (Ab hH ex);refine Bd ⟨a.trans (As hH bg),bg.at (i:=2) rfl,bg.at (i:=3) rfl,bg.at (i:=7) rfl⟩ fun kI811=>?_;refine Xd (i:=9) (j:=13) (by kernel_rfl) rfl rfl ?_ ?_
       ·obtain⟨ab,h⟩:=Ac h;refine Bo (r:=(.vec .byte)) (l:=y) (m:=[(a0.getD b.toNat default).1]) 6 rfl rfl Abp Fs rfl (by decide) rfl hH bg rfl (((af.mono e).mono c).mono a) eo ab ?_;intro mk pn kf cl ih gq;have a:=a.trans (Ab hH ih);refine Bd ⟨a.trans (As hH cl),cl.at (i:=2) rfl,cl.at (i:=3) rfl,cl.at (i:=7) rfl⟩ fun kI814=>?_;refine Ea (i:=13) (by kernel_rfl) rfl<|Br (r:=.tree) (l:=[((a0.getD b.toNat default).2)]) rfl (fun _=>IK _ _ _ _ _ _) rfl (show 1≤9223372036854775807 by decide) hH cl (.c5 (Go.E.Rp.D0 ⟨_,_,rfl,rfl,⟨_,_,rfl,rfl,⟨_,_,rfl,⟨_,rfl,(e618h3.mono (Ai hH))⟩,⟨_,_,rfl,⟨_,rfl,(e618h4.mono (Ai hH))⟩,⟨_,rfl,(e618h5.mono (Ai hH))⟩⟩⟩⟩⟩) .nil) ?_;intro po pp n3 cm ey kg;have a:=a.trans (Ab hH ey);refine Bd ⟨a.trans (As hH cm),cm.at (i:=2) rfl,cm.at (i:=3) rfl,cm.at (i:=7) rfl⟩ fun kI816=>?_;refine Ea (i:=14) (by kernel_rfl) rfl ?_;obtain⟨ac,h⟩:=Ac h;refine Bo (r:=.tree) (l:=x) (m:=[((a0.getD b.toNat default).2)]) 5 rfl rfl Abo GL rfl (by decide) rfl hH cm rfl (((ae.mono e).mono c).mono a) kg ac ?_;intro ml pq kh bh ez gr;have a:=a.trans (Ab hH ez)
        refine Bd ⟨a.trans (As hH bh),bh.at (i:=2) rfl,bh.at (i:=3) rfl,bh.at (i:=7) rfl⟩ fun kI819=>?_;refine Ea (i:=16) (by kernel_rfl) rfl<|Bi 7 rfl rfl (row_one (bh.at (i:=4) rfl)) Jo bh rfl rfl fun pr ki cn=>Cs [0,1,2,3,4,5,6,7,8,9,10,11,12,13,14,15] (by kernel_rfl)<|Ea (i:=17) (by kernel_rfl) rfl<|Ar 1 rfl<|Cs [0,1,2,3,4,5,6,7,8,9,10,11,12,13,14,15,16] (by kernel_rfl)<|Ea (i:=18) (by kernel_rfl) rfl<|Ar 1 rfl<|Ex (by kernel_rfl)<|Dz (by kernel_rfl) ?_;have aq:=aq.mono (Ab hH (ex.trans (ih.trans (ey.trans (ez.trans cn)))));have gq:=gq.mono (Ab hH (ey.trans (ez.trans cn)));have gr:=gr.mono (Ab hH cn);have a:=a.trans (Ab hH cn);refine A9 ((aa++[(d.1.1,d.1.2.1,d.1.2.2)]),(x++[((a0.getD b.toNat default).2)]),(y++[(a0.getD b.toNat default).1]),i0,gp,ml,kh,mk,kf) (.cons rfl (.cons rfl (.cons rfl (.cons rfl (.cons rfl (.cons rfl (.cons rfl (.cons rfl (Sub.nil _))))))))) ⟨ki,((g.mono c).mono a),((k.mono c).mono a),((o.mono c).mono a),aq,gr,gq,h⟩
       obtain⟨ab,h⟩:=Ac h;obtain⟨ac,h⟩:=Ac h;refine Br (r:=.tree) (l:=[((a0.getD b.toNat default).2)]) rfl (fun _=>IK _ _ _ _ _ _) rfl (show 1≤9223372036854775807 by decide) hH bg (.c5 (Go.E.Rp.D0 ⟨_,_,rfl,rfl,⟨_,_,rfl,rfl,⟨_,_,rfl,⟨_,rfl,(e618h3.mono (Ai hH))⟩,⟨_,_,rfl,⟨_,rfl,(e618h4.mono (Ai hH))⟩,⟨_,rfl,(e618h5.mono (Ai hH))⟩⟩⟩⟩⟩) .nil) ?_;intro ps pt n4 co e0 gs;have a:=a.trans (Ab hH e0);refine Bd ⟨a.trans (As hH co),co.at (i:=2) rfl,co.at (i:=3) rfl,co.at (i:=7) rfl⟩ fun kI822=>?_;refine Ea (i:=9) (by kernel_rfl) rfl ?_;have eo:=eo.mono (Ab hH e0);refine Bo (r:=(.vec .byte)) (l:=y) (m:=[(a0.getD b.toNat default).1]) 6 rfl rfl Abp Fs rfl (by decide) rfl hH co rfl (((af.mono e).mono c).mono a) eo ab ?_;intro mm pu kj cp e1 gt;have a:=a.trans (Ab hH e1);refine Bd ⟨a.trans (As hH cp),cp.at (i:=2) rfl,cp.at (i:=3) rfl,cp.at (i:=7) rfl⟩ fun kI824=>?_;refine Ea (i:=14) (by kernel_rfl) rfl ?_;have gs:=gs.mono (Ab hH e1);refine Bo (r:=.tree) (l:=x) (m:=[((a0.getD b.toNat default).2)]) 5 rfl rfl Abo GL rfl (by decide) rfl hH cp rfl (((ae.mono e).mono c).mono a) gs ac ?_
       intro mn pv kk bi e2 gu;have a:=a.trans (Ab hH e2);refine Bd ⟨a.trans (As hH bi),bi.at (i:=2) rfl,bi.at (i:=3) rfl,bi.at (i:=7) rfl⟩ fun kI826=>?_;refine Ea (i:=16) (by kernel_rfl) rfl<|Bi 7 rfl rfl (row_one (bi.at (i:=4) rfl)) Jo bi rfl rfl fun pw kl cq=>Cs [0,1,2,3,4,5,6,7,8,9,10,11,12,13,14,15] (by kernel_rfl)<|Ea (i:=17) (by kernel_rfl) rfl<|Ar 1 rfl<|Cs [0,1,2,3,4,5,6,7,8,9,10,11,12,13,14,15,16] (by kernel_rfl)<|Ea (i:=18) (by kernel_rfl) rfl<|Ar 1 rfl<|Ex (by kernel_rfl)<|Dz (by kernel_rfl) ?_;have aq:=aq.mono (Ab hH (ex.trans (e0.trans (e1.trans (e2.trans cq)))));have gt:=gt.mono (Ab hH (e2.trans cq));have gu:=gu.mono (Ab hH cq);have a:=a.trans (Ab hH cq);refine A9 ((aa++[(d.1.1,d.1.2.1,d.1.2.2)]),(x++[((a0.getD b.toNat default).2)]),(y++[(a0.getD b.toNat default).1]),i0,gp,mn,kk,mm,kj) (.cons rfl (.cons rfl (.cons rfl (.cons rfl (.cons rfl (.cons rfl (.cons rfl (.cons rfl (Sub.nil _))))))))) ⟨kl,((g.mono c).mono a),((k.mono c).mono a),((o.mono c).mono a),aq,gu,gt,h⟩
      obtain⟨ab,h⟩:=Ac h;obtain⟨ac,h⟩:=Ac h;refine Br (r:=.tree) (l:=[((a0.getD b.toNat default).2)]) rfl (fun _=>IK _ _ _ _ _ _) rfl (show 1≤9223372036854775807 by decide) hH bf (.c5 (Go.E.Rp.D0 ⟨_,_,rfl,rfl,⟨_,_,rfl,rfl,⟨_,_,rfl,⟨_,rfl,(e618h3.mono (Ai hH))⟩,⟨_,_,rfl,⟨_,rfl,(e618h4.mono (Ai hH))⟩,⟨_,rfl,(e618h5.mono (Ai hH))⟩⟩⟩⟩⟩) .nil) ?_;intro px py n5 cr ii gv;have a:=a.trans (Ab hH ii);refine Bd ⟨a.trans (As hH cr),cr.at (i:=2) rfl,cr.at (i:=3) rfl,cr.at (i:=7) rfl⟩ fun kI829=>?_;refine Ea (i:=8) (by kernel_rfl) rfl<|Br (r:=(.vec .byte)) (l:=[(a0.getD b.toNat default).1]) rfl (fun _=>K1 _ e618h0.one _) rfl (show 1≤9223372036854775807 by decide) hH cr (.c1 ⟨_,rfl,(e618h0.mono (Ai hH))⟩ .nil) ?_;intro pz p0 n6 cs e3 km;have a:=a.trans (Ab hH e3);refine Bd ⟨a.trans (As hH cs),cs.at (i:=2) rfl,cs.at (i:=3) rfl,cs.at (i:=7) rfl⟩ fun kI831=>?_;refine Ea (i:=9) (by kernel_rfl) rfl<|Bo (r:=(.vec .byte)) (l:=y) (m:=[(a0.getD b.toNat default).1]) 6 rfl rfl Abp Fs rfl (by decide) rfl hH cs rfl (((af.mono e).mono c).mono a) km ab ?_;intro mo p1 kn ct e4 gw;have a:=a.trans (Ab hH e4)
      refine Bd ⟨a.trans (As hH ct),ct.at (i:=2) rfl,ct.at (i:=3) rfl,ct.at (i:=7) rfl⟩ fun kI833=>?_;refine Ea (i:=14) (by kernel_rfl) rfl ?_;have gv:=gv.mono (Ab hH (e3.trans e4));refine Bo (r:=.tree) (l:=x) (m:=[((a0.getD b.toNat default).2)]) 5 rfl rfl Abo GL rfl (by decide) rfl hH ct rfl (((ae.mono e).mono c).mono a) gv ac ?_;intro mp p2 ko bj e5 gx;have a:=a.trans (Ab hH e5);refine Bd ⟨a.trans (As hH bj),bj.at (i:=2) rfl,bj.at (i:=3) rfl,bj.at (i:=7) rfl⟩ fun kI835=>?_;refine Ea (i:=16) (by kernel_rfl) rfl<|Bi 7 rfl rfl (row_one (bj.at (i:=4) rfl)) Jo bj rfl rfl fun p3 kp cu=>Cs [0,1,2,3,4,5,6,7,8,9,10,11,12,13,14,15] (by kernel_rfl)<|Ea (i:=17) (by kernel_rfl) rfl<|Ar 1 rfl<|Cs [0,1,2,3,4,5,6,7,8,9,10,11,12,13,14,15,16] (by kernel_rfl)<|Ea (i:=18) (by kernel_rfl) rfl<|Ar 1 rfl<|Ex (by kernel_rfl)<|Dz (by kernel_rfl) ?_;have aq:=aq.mono (Ab hH (ii.trans (e3.trans (e4.trans (e5.trans cu)))));have gw:=gw.mono (Ab hH (e5.trans cu));have gx:=gx.mono (Ab hH cu);have a:=a.trans (Ab hH cu)
      refine A9 ((aa++[(d.1.1,d.1.2.1,d.1.2.2)]),(x++[((a0.getD b.toNat default).2)]),(y++[(a0.getD b.toNat default).1]),i0,gp,mp,ko,mo,kn) (.cons rfl (.cons rfl (.cons rfl (.cons rfl (.cons rfl (.cons rfl (.cons rfl (.cons rfl (Sub.nil _))))))))) ⟨kp,((g.mono c).mono a),((k.mono c).mono a),((o.mono c).mono a),aq,gx,gw,h⟩
     ·obtain⟨ag,h⟩:=Ac h;obtain⟨ab,h⟩:=Ac h;obtain⟨ac,h⟩:=Ac h;refine Br (r:=(.vec .byte)) (l:=[(a0.getD b.toNat default).1]) rfl (fun _=>K1 _ e618h0.one _) rfl (show 1≤9223372036854775807 by decide) hH a4 (.c1 ⟨_,rfl,(e618h0.mono (Ai hH))⟩ .nil) ?_;intro p4 p5 n7 bk e6 ar;have a:=a.trans (Ab hH e6);refine Bd ⟨a.trans (As hH bk),bk.at (i:=2) rfl,bk.at (i:=3) rfl,bk.at (i:=7) rfl⟩ fun kI838=>?_;refine Xd (i:=4) (j:=13) (by kernel_rfl) rfl rfl ?_ ?_
      ·have e:=e.trans (Ab hH (aj.trans (ak.trans (al.trans (p.trans (q.trans (t.trans u)))))));have am:=am.mono (Ab hH e6);refine Bo (r:=(.pair (.vec (.int .i64)) (.pair (.vec (.int .i64)) (.vec (.int .i64))))) (l:=aa) (m:=[(d.1.1,d.1.2.1,d.1.2.2)]) 4 rfl rfl AbA FQ rfl (by decide) rfl hH bk rfl (((ah.mono e).mono c).mono a) am ag ?_;intro jn p6 i4 bl e7 bm;have a:=a.trans (Ab hH e7);refine Bd ⟨a.trans (As hH bl),bl.at (i:=2) rfl,bl.at (i:=3) rfl,bl.at (i:=7) rfl⟩ fun kI840=>?_;refine AG 15 ad kI840 (by kernel_rfl) rfl (fun _ _=>Ag rfl Ab9 rfl Jo (by decide)) rfl<|Xd (i:=9) (j:=13) (by kernel_rfl) rfl rfl ?_ ?_
       ·have ar:=ar.mono (Ab hH e7);refine Bo (r:=(.vec .byte)) (l:=y) (m:=[(a0.getD b.toNat default).1]) 6 rfl rfl Abp Fs rfl (by decide) rfl hH bl rfl (((af.mono e).mono c).mono a) ar ab ?_;intro mq p7 kq cv ij gy;have a:=a.trans (Ab hH ij);refine Bd ⟨a.trans (As hH cv),cv.at (i:=2) rfl,cv.at (i:=3) rfl,cv.at (i:=7) rfl⟩ fun kI842=>?_;refine Ea (i:=13) (by kernel_rfl) rfl<|Br (r:=.tree) (l:=[((a0.getD b.toNat default).2)]) rfl (fun _=>IK _ _ _ _ _ _) rfl (show 1≤9223372036854775807 by decide) hH cv (.c5 (Go.E.Rp.D0 ⟨_,_,rfl,rfl,⟨_,_,rfl,rfl,⟨_,_,rfl,⟨_,rfl,(e618h3.mono (Ai hH))⟩,⟨_,_,rfl,⟨_,rfl,(e618h4.mono (Ai hH))⟩,⟨_,rfl,(e618h5.mono (Ai hH))⟩⟩⟩⟩⟩) .nil) ?_;intro p8 p9 n8 cw e8 kr;have a:=a.trans (Ab hH e8);refine Bd ⟨a.trans (As hH cw),cw.at (i:=2) rfl,cw.at (i:=3) rfl,cw.at (i:=7) rfl⟩ fun kI844=>?_;refine Ea (i:=14) (by kernel_rfl) rfl<|Bo (r:=.tree) (l:=x) (m:=[((a0.getD b.toNat default).2)]) 5 rfl rfl Abo GL rfl (by decide) rfl hH cw rfl (((ae.mono e).mono c).mono a) kr ac ?_;intro mr qa ks bn e9 g0;have a:=a.trans (Ab hH e9)
        refine Bd ⟨a.trans (As hH bn),bn.at (i:=2) rfl,bn.at (i:=3) rfl,bn.at (i:=7) rfl⟩ fun kI846=>?_;refine Ea (i:=16) (by kernel_rfl) rfl<|Bi 7 rfl rfl (row_one (bn.at (i:=4) rfl)) Jo bn rfl rfl fun qb kt cx=>Cs [0,1,2,3,4,5,6,7,8,9,10,11,12,13,14,15] (by kernel_rfl)<|Ea (i:=17) (by kernel_rfl) rfl<|Ar 1 rfl<|Cs [0,1,2,3,4,5,6,7,8,9,10,11,12,13,14,15,16] (by kernel_rfl)<|Ea (i:=18) (by kernel_rfl) rfl<|Ar 1 rfl<|Ex (by kernel_rfl)<|Dz (by kernel_rfl) ?_;have bm:=bm.mono (Ab hH (ij.trans (e8.trans (e9.trans cx))));have gy:=gy.mono (Ab hH (e8.trans (e9.trans cx)));have g0:=g0.mono (Ab hH cx);have a:=a.trans (Ab hH cx);refine A9 ((aa++[(d.1.1,d.1.2.1,d.1.2.2)]),(x++[((a0.getD b.toNat default).2)]),(y++[(a0.getD b.toNat default).1]),jn,i4,mr,ks,mq,kq) (.cons rfl (.cons rfl (.cons rfl (.cons rfl (.cons rfl (.cons rfl (.cons rfl (.cons rfl (Sub.nil _))))))))) ⟨kt,((g.mono c).mono a),((k.mono c).mono a),((o.mono c).mono a),bm,g0,gy,h⟩
       refine Br (r:=.tree) (l:=[((a0.getD b.toNat default).2)]) rfl (fun _=>IK _ _ _ _ _ _) rfl (show 1≤9223372036854775807 by decide) hH bl (.c5 (Go.E.Rp.D0 ⟨_,_,rfl,rfl,⟨_,_,rfl,rfl,⟨_,_,rfl,⟨_,rfl,(e618h3.mono (Ai hH))⟩,⟨_,_,rfl,⟨_,rfl,(e618h4.mono (Ai hH))⟩,⟨_,rfl,(e618h5.mono (Ai hH))⟩⟩⟩⟩⟩) .nil) ?_;intro qc qd n9 cy fa g1;have a:=a.trans (Ab hH fa);refine Bd ⟨a.trans (As hH cy),cy.at (i:=2) rfl,cy.at (i:=3) rfl,cy.at (i:=7) rfl⟩ fun kI849=>?_;refine Ea (i:=9) (by kernel_rfl) rfl ?_;have ar:=ar.mono (Ab hH (e7.trans fa));refine Bo (r:=(.vec .byte)) (l:=y) (m:=[(a0.getD b.toNat default).1]) 6 rfl rfl Abp Fs rfl (by decide) rfl hH cy rfl (((af.mono e).mono c).mono a) ar ab ?_;intro ms qe ku cz fb g2;have a:=a.trans (Ab hH fb);refine Bd ⟨a.trans (As hH cz),cz.at (i:=2) rfl,cz.at (i:=3) rfl,cz.at (i:=7) rfl⟩ fun kI851=>?_;refine Ea (i:=14) (by kernel_rfl) rfl ?_;have g1:=g1.mono (Ab hH fb);refine Bo (r:=.tree) (l:=x) (m:=[((a0.getD b.toNat default).2)]) 5 rfl rfl Abo GL rfl (by decide) rfl hH cz rfl (((ae.mono e).mono c).mono a) g1 ac ?_;intro mt qf kv bo fc g3
       have a:=a.trans (Ab hH fc);refine Bd ⟨a.trans (As hH bo),bo.at (i:=2) rfl,bo.at (i:=3) rfl,bo.at (i:=7) rfl⟩ fun kI853=>?_;refine Ea (i:=16) (by kernel_rfl) rfl<|Bi 7 rfl rfl (row_one (bo.at (i:=4) rfl)) Jo bo rfl rfl fun qg kw c0=>Cs [0,1,2,3,4,5,6,7,8,9,10,11,12,13,14,15] (by kernel_rfl)<|Ea (i:=17) (by kernel_rfl) rfl<|Ar 1 rfl<|Cs [0,1,2,3,4,5,6,7,8,9,10,11,12,13,14,15,16] (by kernel_rfl)<|Ea (i:=18) (by kernel_rfl) rfl<|Ar 1 rfl<|Ex (by kernel_rfl)<|Dz (by kernel_rfl) ?_;have bm:=bm.mono (Ab hH (fa.trans (fb.trans (fc.trans c0))));have g2:=g2.mono (Ab hH (fc.trans c0));have g3:=g3.mono (Ab hH c0);have a:=a.trans (Ab hH c0);refine A9 ((aa++[(d.1.1,d.1.2.1,d.1.2.2)]),(x++[((a0.getD b.toNat default).2)]),(y++[(a0.getD b.toNat default).1]),jn,i4,mt,kv,ms,ku) (.cons rfl (.cons rfl (.cons rfl (.cons rfl (.cons rfl (.cons rfl (.cons rfl (.cons rfl (Sub.nil _))))))))) ⟨kw,((g.mono c).mono a),((k.mono c).mono a),((o.mono c).mono a),bm,g3,g2,h⟩
      refine Br (r:=.tree) (l:=[((a0.getD b.toNat default).2)]) rfl (fun _=>IK _ _ _ _ _ _) rfl (show 1≤9223372036854775807 by decide) hH bk (.c5 (Go.E.Rp.D0 ⟨_,_,rfl,rfl,⟨_,_,rfl,rfl,⟨_,_,rfl,⟨_,rfl,(e618h3.mono (Ai hH))⟩,⟨_,_,rfl,⟨_,rfl,(e618h4.mono (Ai hH))⟩,⟨_,rfl,(e618h5.mono (Ai hH))⟩⟩⟩⟩⟩) .nil) ?_;intro qh qi oa c2 fd g4;have a:=a.trans (Ab hH fd);refine Bd ⟨a.trans (As hH c2),c2.at (i:=2) rfl,c2.at (i:=3) rfl,c2.at (i:=7) rfl⟩ fun kI856=>?_;refine Ea (i:=4) (by kernel_rfl) rfl ?_;have e:=e.trans (Ab hH (aj.trans (ak.trans (al.trans (p.trans (q.trans (t.trans u)))))));have am:=am.mono (Ab hH (e6.trans fd));refine Bo (r:=(.pair (.vec (.int .i64)) (.pair (.vec (.int .i64)) (.vec (.int .i64))))) (l:=aa) (m:=[(d.1.1,d.1.2.1,d.1.2.2)]) 4 rfl rfl AbA FQ rfl (by decide) rfl hH c2 rfl (((ah.mono e).mono c).mono a) am ag ?_;intro mu qj kx c4 fe g5;have a:=a.trans (Ab hH fe);refine Bd ⟨a.trans (As hH c4),c4.at (i:=2) rfl,c4.at (i:=3) rfl,c4.at (i:=7) rfl⟩ fun kI858=>?_;refine AG 15 ad kI858 (by kernel_rfl) rfl (fun _ _=>Ag rfl Ab9 rfl Jo (by decide)) rfl<|Ea (i:=9) (by kernel_rfl) rfl ?_
      have ar:=ar.mono (Ab hH (fd.trans fe));refine Bo (r:=(.vec .byte)) (l:=y) (m:=[(a0.getD b.toNat default).1]) 6 rfl rfl Abp Fs rfl (by decide) rfl hH c4 rfl (((af.mono e).mono c).mono a) ar ab ?_;intro mv qk ky c6 ff g6;have a:=a.trans (Ab hH ff);refine Bd ⟨a.trans (As hH c6),c6.at (i:=2) rfl,c6.at (i:=3) rfl,c6.at (i:=7) rfl⟩ fun kI860=>?_;refine Ea (i:=14) (by kernel_rfl) rfl ?_;have g4:=g4.mono (Ab hH (fe.trans ff));refine Bo (r:=.tree) (l:=x) (m:=[((a0.getD b.toNat default).2)]) 5 rfl rfl Abo GL rfl (by decide) rfl hH c6 rfl (((ae.mono e).mono c).mono a) g4 ac ?_;intro mw ql kz bp fg g7;have a:=a.trans (Ab hH fg);refine Bd ⟨a.trans (As hH bp),bp.at (i:=2) rfl,bp.at (i:=3) rfl,bp.at (i:=7) rfl⟩ fun kI862=>?_;refine Ea (i:=16) (by kernel_rfl) rfl<|Bi 7 rfl rfl (row_one (bp.at (i:=4) rfl)) Jo bp rfl rfl fun qm k0 c7=>Cs [0,1,2,3,4,5,6,7,8,9,10,11,12,13,14,15] (by kernel_rfl)<|Ea (i:=17) (by kernel_rfl) rfl<|Ar 1 rfl<|Cs [0,1,2,3,4,5,6,7,8,9,10,11,12,13,14,15,16] (by kernel_rfl)<|Ea (i:=18) (by kernel_rfl) rfl<|Ar 1 rfl ?_
      refine Ex (by kernel_rfl)<|Dz (by kernel_rfl) ?_;have g5:=g5.mono (Ab hH (ff.trans (fg.trans c7)));have g6:=g6.mono (Ab hH (fg.trans c7));have g7:=g7.mono (Ab hH c7);have a:=a.trans (Ab hH c7);refine A9 ((aa++[(d.1.1,d.1.2.1,d.1.2.2)]),(x++[((a0.getD b.toNat default).2)]),(y++[(a0.getD b.toNat default).1]),mu,kx,mw,kz,mv,ky) (.cons rfl (.cons rfl (.cons rfl (.cons rfl (.cons rfl (.cons rfl (.cons rfl (.cons rfl (Sub.nil _))))))))) ⟨k0,((g.mono c).mono a),((k.mono c).mono a),((o.mono c).mono a),g5,g7,g6,h⟩
     obtain⟨ag,h⟩:=Ac h;obtain⟨ab,h⟩:=Ac h;obtain⟨ac,h⟩:=Ac h;refine Br (r:=.tree) (l:=[((a0.getD b.toNat default).2)]) rfl (fun _=>IK _ _ _ _ _ _) rfl (show 1≤9223372036854775807 by decide) hH a4 (.c5 (Go.E.Rp.D0 ⟨_,_,rfl,rfl,⟨_,_,rfl,rfl,⟨_,_,rfl,⟨_,rfl,(e618h3.mono (Ai hH))⟩,⟨_,_,rfl,⟨_,rfl,(e618h4.mono (Ai hH))⟩,⟨_,rfl,(e618h5.mono (Ai hH))⟩⟩⟩⟩⟩) .nil) ?_;intro qn qo ob bq fh br;have a:=a.trans (Ab hH fh);refine Bd ⟨a.trans (As hH bq),bq.at (i:=2) rfl,bq.at (i:=3) rfl,bq.at (i:=7) rfl⟩ fun kI865=>?_;refine Xd (i:=4) (j:=8) (by kernel_rfl) rfl rfl ?_ ?_
     ·have e:=e.trans (Ab hH (aj.trans (ak.trans (al.trans (p.trans (q.trans (t.trans u)))))));have am:=am.mono (Ab hH fh);refine Bo (r:=(.pair (.vec (.int .i64)) (.pair (.vec (.int .i64)) (.vec (.int .i64))))) (l:=aa) (m:=[(d.1.1,d.1.2.1,d.1.2.2)]) 4 rfl rfl AbA FQ rfl (by decide) rfl hH bq rfl (((ah.mono e).mono c).mono a) am ag ?_;intro mx qp k1 c8 ik g8;have a:=a.trans (Ab hH ik);refine Bd ⟨a.trans (As hH c8),c8.at (i:=2) rfl,c8.at (i:=3) rfl,c8.at (i:=7) rfl⟩ fun kI867=>?_;refine AG 15 ad kI867 (by kernel_rfl) rfl (fun _ _=>Ag rfl Ab9 rfl Jo (by decide)) rfl<|Ea (i:=8) (by kernel_rfl) rfl<|Br (r:=(.vec .byte)) (l:=[(a0.getD b.toNat default).1]) rfl (fun _=>K1 _ e618h0.one _) rfl (show 1≤9223372036854775807 by decide) hH c8 (.c1 ⟨_,rfl,(e618h0.mono (Ai hH))⟩ .nil) ?_;intro qq qr oc c9 fi k2;have a:=a.trans (Ab hH fi);refine Bd ⟨a.trans (As hH c9),c9.at (i:=2) rfl,c9.at (i:=3) rfl,c9.at (i:=7) rfl⟩ fun kI869=>?_;refine Ea (i:=9) (by kernel_rfl) rfl ?_
      refine Bo (r:=(.vec .byte)) (l:=y) (m:=[(a0.getD b.toNat default).1]) 6 rfl rfl Abp Fs rfl (by decide) rfl hH c9 rfl (((af.mono e).mono c).mono a) k2 ab ?_;intro my qs k3 da fj g9;have a:=a.trans (Ab hH fj);refine Bd ⟨a.trans (As hH da),da.at (i:=2) rfl,da.at (i:=3) rfl,da.at (i:=7) rfl⟩ fun kI871=>?_;refine Ea (i:=14) (by kernel_rfl) rfl ?_;have br:=br.mono (Ab hH (ik.trans (fi.trans fj)));refine Bo (r:=.tree) (l:=x) (m:=[((a0.getD b.toNat default).2)]) 5 rfl rfl Abo GL rfl (by decide) rfl hH da rfl (((ae.mono e).mono c).mono a) br ac ?_;intro mz qt k4 bs fk ha;have a:=a.trans (Ab hH fk);refine Bd ⟨a.trans (As hH bs),bs.at (i:=2) rfl,bs.at (i:=3) rfl,bs.at (i:=7) rfl⟩ fun kI873=>?_;refine Ea (i:=16) (by kernel_rfl) rfl<|Bi 7 rfl rfl (row_one (bs.at (i:=4) rfl)) Jo bs rfl rfl fun qu k5 db=>Cs [0,1,2,3,4,5,6,7,8,9,10,11,12,13,14,15] (by kernel_rfl)<|Ea (i:=17) (by kernel_rfl) rfl<|Ar 1 rfl<|Cs [0,1,2,3,4,5,6,7,8,9,10,11,12,13,14,15,16] (by kernel_rfl)<|Ea (i:=18) (by kernel_rfl) rfl<|Ar 1 rfl<|Ex (by kernel_rfl) ?_
      refine Dz (by kernel_rfl) ?_;have g8:=g8.mono (Ab hH (fi.trans (fj.trans (fk.trans db))));have g9:=g9.mono (Ab hH (fk.trans db));have ha:=ha.mono (Ab hH db);have a:=a.trans (Ab hH db);refine A9 ((aa++[(d.1.1,d.1.2.1,d.1.2.2)]),(x++[((a0.getD b.toNat default).2)]),(y++[(a0.getD b.toNat default).1]),mx,k1,mz,k4,my,k3) (.cons rfl (.cons rfl (.cons rfl (.cons rfl (.cons rfl (.cons rfl (.cons rfl (.cons rfl (Sub.nil _))))))))) ⟨k5,((g.mono c).mono a),((k.mono c).mono a),((o.mono c).mono a),g8,ha,g9,h⟩
     refine Br (r:=(.vec .byte)) (l:=[(a0.getD b.toNat default).1]) rfl (fun _=>K1 _ e618h0.one _) rfl (show 1≤9223372036854775807 by decide) hH bq (.c1 ⟨_,rfl,(e618h0.mono (Ai hH))⟩ .nil) ?_;intro qv qw od dc fl hb;have a:=a.trans (Ab hH fl);refine Bd ⟨a.trans (As hH dc),dc.at (i:=2) rfl,dc.at (i:=3) rfl,dc.at (i:=7) rfl⟩ fun kI876=>?_;refine Ea (i:=4) (by kernel_rfl) rfl ?_;have e:=e.trans (Ab hH (aj.trans (ak.trans (al.trans (p.trans (q.trans (t.trans u)))))));have am:=am.mono (Ab hH (fh.trans fl));refine Bo (r:=(.pair (.vec (.int .i64)) (.pair (.vec (.int .i64)) (.vec (.int .i64))))) (l:=aa) (m:=[(d.1.1,d.1.2.1,d.1.2.2)]) 4 rfl rfl AbA FQ rfl (by decide) rfl hH dc rfl (((ah.mono e).mono c).mono a) am ag ?_;intro m0 qx k6 dd fm hc;have a:=a.trans (Ab hH fm);refine Bd ⟨a.trans (As hH dd),dd.at (i:=2) rfl,dd.at (i:=3) rfl,dd.at (i:=7) rfl⟩ fun kI878=>?_;refine AG 15 ad kI878 (by kernel_rfl) rfl (fun _ _=>Ag rfl Ab9 rfl Jo (by decide)) rfl<|Ea (i:=9) (by kernel_rfl) rfl ?_;have hb:=hb.mono (Ab hH fm)
     refine Bo (r:=(.vec .byte)) (l:=y) (m:=[(a0.getD b.toNat default).1]) 6 rfl rfl Abp Fs rfl (by decide) rfl hH dd rfl (((af.mono e).mono c).mono a) hb ab ?_;intro m1 qy k7 de fn hd;have a:=a.trans (Ab hH fn);refine Bd ⟨a.trans (As hH de),de.at (i:=2) rfl,de.at (i:=3) rfl,de.at (i:=7) rfl⟩ fun kI880=>?_;refine Ea (i:=14) (by kernel_rfl) rfl ?_;have br:=br.mono (Ab hH (fl.trans (fm.trans fn)));refine Bo (r:=.tree) (l:=x) (m:=[((a0.getD b.toNat default).2)]) 5 rfl rfl Abo GL rfl (by decide) rfl hH de rfl (((ae.mono e).mono c).mono a) br ac ?_;intro m2 qz k8 bt fo he;have a:=a.trans (Ab hH fo);refine Bd ⟨a.trans (As hH bt),bt.at (i:=2) rfl,bt.at (i:=3) rfl,bt.at (i:=7) rfl⟩ fun kI882=>?_;refine Ea (i:=16) (by kernel_rfl) rfl<|Bi 7 rfl rfl (row_one (bt.at (i:=4) rfl)) Jo bt rfl rfl fun q0 k9 df=>Cs [0,1,2,3,4,5,6,7,8,9,10,11,12,13,14,15] (by kernel_rfl)<|Ea (i:=17) (by kernel_rfl) rfl<|Ar 1 rfl<|Cs [0,1,2,3,4,5,6,7,8,9,10,11,12,13,14,15,16] (by kernel_rfl)<|Ea (i:=18) (by kernel_rfl) rfl<|Ar 1 rfl<|Ex (by kernel_rfl) ?_
     refine Dz (by kernel_rfl) ?_;have hc:=hc.mono (Ab hH (fn.trans (fo.trans df)));have hd:=hd.mono (Ab hH (fo.trans df));have he:=he.mono (Ab hH df);have a:=a.trans (Ab hH df);refine A9 ((aa++[(d.1.1,d.1.2.1,d.1.2.2)]),(x++[((a0.getD b.toNat default).2)]),(y++[(a0.getD b.toNat default).1]),m0,k6,m2,k8,m1,k7) (.cons rfl (.cons rfl (.cons rfl (.cons rfl (.cons rfl (.cons rfl (.cons rfl (.cons rfl (Sub.nil _))))))))) ⟨k9,((g.mono c).mono a),((k.mono c).mono a),((o.mono c).mono a),hc,he,hd,h⟩
    ·obtain⟨ag,h⟩:=Ac h;obtain⟨ab,h⟩:=Ac h;obtain⟨ac,h⟩:=Ac h;refine Br (r:=(.vec .byte)) (l:=[(a0.getD b.toNat default).1]) rfl (fun _=>K1 _ e618h0.one _) rfl (show 1≤9223372036854775807 by decide) hH az (.c1 ⟨_,rfl,(e618h0.mono (Ai hH))⟩ .nil) ?_;intro q1 q2 oe bu jo an;have a:=a.trans (Ab hH jo);refine Bd ⟨a.trans (As hH bu),bu.at (i:=2) rfl,bu.at (i:=3) rfl,bu.at (i:=7) rfl⟩ fun kI885=>?_;refine Xd (i:=3) (j:=13) (by kernel_rfl) rfl rfl ?_ ?_
     ·have g:=g.mono (Ab hH (p.trans (q.trans (t.trans u))));have k:=k.mono (Ab hH (p.trans (q.trans (t.trans u))));have o:=o.mono (Ab hH (p.trans (q.trans (t.trans u))));have c:=c.trans (Ab hH (a6.trans (a7.trans (a8.trans bc))));refine Br (r:=(.pair (.vec (.int .i64)) (.pair (.vec (.int .i64)) (.vec (.int .i64))))) (l:=[(d.1.1,d.1.2.1,d.1.2.2)]) rfl (fun _=>OH _ _ _ _) rfl (show 1≤9223372036854775807 by decide) hH bu (.c3 ⟨_,_,rfl,⟨_,rfl,((g.mono c).mono a)⟩,⟨_,_,rfl,⟨_,rfl,((k.mono c).mono a)⟩,⟨_,rfl,((o.mono c).mono a)⟩⟩⟩ .nil) ?_;intro q3 q4 og bv dg ep;have a:=a.trans (Ab hH dg);refine Bd ⟨a.trans (As hH bv),bv.at (i:=2) rfl,bv.at (i:=3) rfl,bv.at (i:=7) rfl⟩ fun kI887=>?_;refine Xd (i:=4) (j:=13) (by kernel_rfl) rfl rfl ?_ ?_
      ·have e:=e.trans (Ab hH (aj.trans (ak.trans (al.trans (p.trans (q.trans (t.trans u)))))));refine Bo (r:=(.pair (.vec (.int .i64)) (.pair (.vec (.int .i64)) (.vec (.int .i64))))) (l:=aa) (m:=[(d.1.1,d.1.2.1,d.1.2.2)]) 4 rfl rfl AbA FQ rfl (by decide) rfl hH bv rfl (((ah.mono e).mono c).mono a) ep ag ?_;intro jp q5 i5 bw fp bx;have a:=a.trans (Ab hH fp);refine Bd ⟨a.trans (As hH bw),bw.at (i:=2) rfl,bw.at (i:=3) rfl,bw.at (i:=7) rfl⟩ fun kI889=>?_;refine AG 15 ad kI889 (by kernel_rfl) rfl (fun _ _=>Ag rfl Ab9 rfl Jo (by decide)) rfl<|Xd (i:=9) (j:=13) (by kernel_rfl) rfl rfl ?_ ?_
       ·have an:=an.mono (Ab hH (dg.trans fp));refine Bo (r:=(.vec .byte)) (l:=y) (m:=[(a0.getD b.toNat default).1]) 6 rfl rfl Abp Fs rfl (by decide) rfl hH bw rfl (((af.mono e).mono c).mono a) an ab ?_;intro m3 q6 la dh il hf;have a:=a.trans (Ab hH il);refine Bd ⟨a.trans (As hH dh),dh.at (i:=2) rfl,dh.at (i:=3) rfl,dh.at (i:=7) rfl⟩ fun kI891=>?_;refine Ea (i:=13) (by kernel_rfl) rfl<|Br (r:=.tree) (l:=[((a0.getD b.toNat default).2)]) rfl (fun _=>IK _ _ _ _ _ _) rfl (show 1≤9223372036854775807 by decide) hH dh (.c5 (Go.E.Rp.D0 ⟨_,_,rfl,rfl,⟨_,_,rfl,rfl,⟨_,_,rfl,⟨_,rfl,(e618h3.mono (Ai hH))⟩,⟨_,_,rfl,⟨_,rfl,(e618h4.mono (Ai hH))⟩,⟨_,rfl,(e618h5.mono (Ai hH))⟩⟩⟩⟩⟩) .nil) ?_;intro q7 q8 oh di fq lb;have a:=a.trans (Ab hH fq);refine Bd ⟨a.trans (As hH di),di.at (i:=2) rfl,di.at (i:=3) rfl,di.at (i:=7) rfl⟩ fun kI893=>?_;refine Ea (i:=14) (by kernel_rfl) rfl<|Bo (r:=.tree) (l:=x) (m:=[((a0.getD b.toNat default).2)]) 5 rfl rfl Abo GL rfl (by decide) rfl hH di rfl (((ae.mono e).mono c).mono a) lb ac ?_;intro m4 q9 lc bz fr hg;have a:=a.trans (Ab hH fr)
        refine Bd ⟨a.trans (As hH bz),bz.at (i:=2) rfl,bz.at (i:=3) rfl,bz.at (i:=7) rfl⟩ fun kI895=>?_;refine Ea (i:=16) (by kernel_rfl) rfl<|Bi 7 rfl rfl (row_one (bz.at (i:=4) rfl)) Jo bz rfl rfl fun ra ld dj=>Cs [0,1,2,3,4,5,6,7,8,9,10,11,12,13,14,15] (by kernel_rfl)<|Ea (i:=17) (by kernel_rfl) rfl<|Ar 1 rfl<|Cs [0,1,2,3,4,5,6,7,8,9,10,11,12,13,14,15,16] (by kernel_rfl)<|Ea (i:=18) (by kernel_rfl) rfl<|Ar 1 rfl<|Ex (by kernel_rfl)<|Dz (by kernel_rfl) ?_;have bx:=bx.mono (Ab hH (il.trans (fq.trans (fr.trans dj))));have hf:=hf.mono (Ab hH (fq.trans (fr.trans dj)));have hg:=hg.mono (Ab hH dj);have a:=a.trans (Ab hH dj);refine A9 ((aa++[(d.1.1,d.1.2.1,d.1.2.2)]),(x++[((a0.getD b.toNat default).2)]),(y++[(a0.getD b.toNat default).1]),jp,i5,m4,lc,m3,la) (.cons rfl (.cons rfl (.cons rfl (.cons rfl (.cons rfl (.cons rfl (.cons rfl (.cons rfl (Sub.nil _))))))))) ⟨ld,((g.mono c).mono a),((k.mono c).mono a),((o.mono c).mono a),bx,hg,hf,h⟩
       refine Br (r:=.tree) (l:=[((a0.getD b.toNat default).2)]) rfl (fun _=>IK _ _ _ _ _ _) rfl (show 1≤9223372036854775807 by decide) hH bw (.c5 (Go.E.Rp.D0 ⟨_,_,rfl,rfl,⟨_,_,rfl,rfl,⟨_,_,rfl,⟨_,rfl,(e618h3.mono (Ai hH))⟩,⟨_,_,rfl,⟨_,rfl,(e618h4.mono (Ai hH))⟩,⟨_,rfl,(e618h5.mono (Ai hH))⟩⟩⟩⟩⟩) .nil) ?_;intro rb rc oi dk fs hh;have a:=a.trans (Ab hH fs);refine Bd ⟨a.trans (As hH dk),dk.at (i:=2) rfl,dk.at (i:=3) rfl,dk.at (i:=7) rfl⟩ fun kI898=>?_;refine Ea (i:=9) (by kernel_rfl) rfl ?_;have an:=an.mono (Ab hH (dg.trans (fp.trans fs)));refine Bo (r:=(.vec .byte)) (l:=y) (m:=[(a0.getD b.toNat default).1]) 6 rfl rfl Abp Fs rfl (by decide) rfl hH dk rfl (((af.mono e).mono c).mono a) an ab ?_;intro m5 rd le dl ft hi;have a:=a.trans (Ab hH ft);refine Bd ⟨a.trans (As hH dl),dl.at (i:=2) rfl,dl.at (i:=3) rfl,dl.at (i:=7) rfl⟩ fun kI900=>?_;refine Ea (i:=14) (by kernel_rfl) rfl ?_;have hh:=hh.mono (Ab hH ft);refine Bo (r:=.tree) (l:=x) (m:=[((a0.getD b.toNat default).2)]) 5 rfl rfl Abo GL rfl (by decide) rfl hH dl rfl (((ae.mono e).mono c).mono a) hh ac ?_;intro m6 re lf b0 fu hj
       have a:=a.trans (Ab hH fu);refine Bd ⟨a.trans (As hH b0),b0.at (i:=2) rfl,b0.at (i:=3) rfl,b0.at (i:=7) rfl⟩ fun kI902=>?_;refine Ea (i:=16) (by kernel_rfl) rfl<|Bi 7 rfl rfl (row_one (b0.at (i:=4) rfl)) Jo b0 rfl rfl fun rf lg dm=>Cs [0,1,2,3,4,5,6,7,8,9,10,11,12,13,14,15] (by kernel_rfl)<|Ea (i:=17) (by kernel_rfl) rfl<|Ar 1 rfl<|Cs [0,1,2,3,4,5,6,7,8,9,10,11,12,13,14,15,16] (by kernel_rfl)<|Ea (i:=18) (by kernel_rfl) rfl<|Ar 1 rfl<|Ex (by kernel_rfl)<|Dz (by kernel_rfl) ?_;have bx:=bx.mono (Ab hH (fs.trans (ft.trans (fu.trans dm))));have hi:=hi.mono (Ab hH (fu.trans dm));have hj:=hj.mono (Ab hH dm);have a:=a.trans (Ab hH dm);refine A9 ((aa++[(d.1.1,d.1.2.1,d.1.2.2)]),(x++[((a0.getD b.toNat default).2)]),(y++[(a0.getD b.toNat default).1]),jp,i5,m6,lf,m5,le) (.cons rfl (.cons rfl (.cons rfl (.cons rfl (.cons rfl (.cons rfl (.cons rfl (.cons rfl (Sub.nil _))))))))) ⟨lg,((g.mono c).mono a),((k.mono c).mono a),((o.mono c).mono a),bx,hj,hi,h⟩
      refine Br (r:=.tree) (l:=[((a0.getD b.toNat default).2)]) rfl (fun _=>IK _ _ _ _ _ _) rfl (show 1≤9223372036854775807 by decide) hH bv (.c5 (Go.E.Rp.D0 ⟨_,_,rfl,rfl,⟨_,_,rfl,rfl,⟨_,_,rfl,⟨_,rfl,(e618h3.mono (Ai hH))⟩,⟨_,_,rfl,⟨_,rfl,(e618h4.mono (Ai hH))⟩,⟨_,rfl,(e618h5.mono (Ai hH))⟩⟩⟩⟩⟩) .nil) ?_;intro rg rh oj dn fv hk;have a:=a.trans (Ab hH fv);refine Bd ⟨a.trans (As hH dn),dn.at (i:=2) rfl,dn.at (i:=3) rfl,dn.at (i:=7) rfl⟩ fun kI905=>?_;refine Ea (i:=4) (by kernel_rfl) rfl ?_;have e:=e.trans (Ab hH (aj.trans (ak.trans (al.trans (p.trans (q.trans (t.trans u)))))));have ep:=ep.mono (Ab hH fv);refine Bo (r:=(.pair (.vec (.int .i64)) (.pair (.vec (.int .i64)) (.vec (.int .i64))))) (l:=aa) (m:=[(d.1.1,d.1.2.1,d.1.2.2)]) 4 rfl rfl AbA FQ rfl (by decide) rfl hH dn rfl (((ah.mono e).mono c).mono a) ep ag ?_;intro m7 ri lh dp fw hl;have a:=a.trans (Ab hH fw);refine Bd ⟨a.trans (As hH dp),dp.at (i:=2) rfl,dp.at (i:=3) rfl,dp.at (i:=7) rfl⟩ fun kI907=>?_;refine AG 15 ad kI907 (by kernel_rfl) rfl (fun _ _=>Ag rfl Ab9 rfl Jo (by decide)) rfl<|Ea (i:=9) (by kernel_rfl) rfl ?_
      have an:=an.mono (Ab hH (dg.trans (fv.trans fw)));refine Bo (r:=(.vec .byte)) (l:=y) (m:=[(a0.getD b.toNat default).1]) 6 rfl rfl Abp Fs rfl (by decide) rfl hH dp rfl (((af.mono e).mono c).mono a) an ab ?_;intro m8 rj li dq fx hm;have a:=a.trans (Ab hH fx);refine Bd ⟨a.trans (As hH dq),dq.at (i:=2) rfl,dq.at (i:=3) rfl,dq.at (i:=7) rfl⟩ fun kI909=>?_;refine Ea (i:=14) (by kernel_rfl) rfl ?_;have hk:=hk.mono (Ab hH (fw.trans fx));refine Bo (r:=.tree) (l:=x) (m:=[((a0.getD b.toNat default).2)]) 5 rfl rfl Abo GL rfl (by decide) rfl hH dq rfl (((ae.mono e).mono c).mono a) hk ac ?_;intro m9 rk lj b3 fy hn;have a:=a.trans (Ab hH fy);refine Bd ⟨a.trans (As hH b3),b3.at (i:=2) rfl,b3.at (i:=3) rfl,b3.at (i:=7) rfl⟩ fun kI911=>?_;refine Ea (i:=16) (by kernel_rfl) rfl<|Bi 7 rfl rfl (row_one (b3.at (i:=4) rfl)) Jo b3 rfl rfl fun rl lk dr=>Cs [0,1,2,3,4,5,6,7,8,9,10,11,12,13,14,15] (by kernel_rfl)<|Ea (i:=17) (by kernel_rfl) rfl<|Ar 1 rfl<|Cs [0,1,2,3,4,5,6,7,8,9,10,11,12,13,14,15,16] (by kernel_rfl)<|Ea (i:=18) (by kernel_rfl) rfl ?_
      refine Ar 1 rfl<|Ex (by kernel_rfl)<|Dz (by kernel_rfl) ?_;have hl:=hl.mono (Ab hH (fx.trans (fy.trans dr)));have hm:=hm.mono (Ab hH (fy.trans dr));have hn:=hn.mono (Ab hH dr);have a:=a.trans (Ab hH dr);refine A9 ((aa++[(d.1.1,d.1.2.1,d.1.2.2)]),(x++[((a0.getD b.toNat default).2)]),(y++[(a0.getD b.toNat default).1]),m7,lh,m9,lj,m8,li) (.cons rfl (.cons rfl (.cons rfl (.cons rfl (.cons rfl (.cons rfl (.cons rfl (.cons rfl (Sub.nil _))))))))) ⟨lk,((g.mono c).mono a),((k.mono c).mono a),((o.mono c).mono a),hl,hn,hm,h⟩
     refine Br (r:=.tree) (l:=[((a0.getD b.toNat default).2)]) rfl (fun _=>IK _ _ _ _ _ _) rfl (show 1≤9223372036854775807 by decide) hH bu (.c5 (Go.E.Rp.D0 ⟨_,_,rfl,rfl,⟨_,_,rfl,rfl,⟨_,_,rfl,⟨_,rfl,(e618h3.mono (Ai hH))⟩,⟨_,_,rfl,⟨_,rfl,(e618h4.mono (Ai hH))⟩,⟨_,rfl,(e618h5.mono (Ai hH))⟩⟩⟩⟩⟩) .nil) ?_;intro rm rn ok ds im ho;have a:=a.trans (Ab hH im);refine Bd ⟨a.trans (As hH ds),ds.at (i:=2) rfl,ds.at (i:=3) rfl,ds.at (i:=7) rfl⟩ fun kI914=>?_;refine Ea (i:=3) (by kernel_rfl) rfl ?_;have g:=g.mono (Ab hH (p.trans (q.trans (t.trans u))));have k:=k.mono (Ab hH (p.trans (q.trans (t.trans u))));have o:=o.mono (Ab hH (p.trans (q.trans (t.trans u))));have c:=c.trans (Ab hH (a6.trans (a7.trans (a8.trans bc))));refine Br (r:=(.pair (.vec (.int .i64)) (.pair (.vec (.int .i64)) (.vec (.int .i64))))) (l:=[(d.1.1,d.1.2.1,d.1.2.2)]) rfl (fun _=>OH _ _ _ _) rfl (show 1≤9223372036854775807 by decide) hH ds (.c3 ⟨_,_,rfl,⟨_,rfl,((g.mono c).mono a)⟩,⟨_,_,rfl,⟨_,rfl,((k.mono c).mono a)⟩,⟨_,rfl,((o.mono c).mono a)⟩⟩⟩ .nil) ?_;intro ro rp ol dt fz ll
     have a:=a.trans (Ab hH fz);refine Bd ⟨a.trans (As hH dt),dt.at (i:=2) rfl,dt.at (i:=3) rfl,dt.at (i:=7) rfl⟩ fun kI916=>?_;refine Ea (i:=4) (by kernel_rfl) rfl ?_;have e:=e.trans (Ab hH (aj.trans (ak.trans (al.trans (p.trans (q.trans (t.trans u)))))));refine Bo (r:=(.pair (.vec (.int .i64)) (.pair (.vec (.int .i64)) (.vec (.int .i64))))) (l:=aa) (m:=[(d.1.1,d.1.2.1,d.1.2.2)]) 4 rfl rfl AbA FQ rfl (by decide) rfl hH dt rfl (((ah.mono e).mono c).mono a) ll ag ?_;intro na rq lm du f0 hq;have a:=a.trans (Ab hH f0);refine Bd ⟨a.trans (As hH du),du.at (i:=2) rfl,du.at (i:=3) rfl,du.at (i:=7) rfl⟩ fun kI918=>?_;refine AG 15 ad kI918 (by kernel_rfl) rfl (fun _ _=>Ag rfl Ab9 rfl Jo (by decide)) rfl<|Ea (i:=9) (by kernel_rfl) rfl ?_;have an:=an.mono (Ab hH (im.trans (fz.trans f0)));refine Bo (r:=(.vec .byte)) (l:=y) (m:=[(a0.getD b.toNat default).1]) 6 rfl rfl Abp Fs rfl (by decide) rfl hH du rfl (((af.mono e).mono c).mono a) an ab ?_;intro nb rr ln dv f1 hr;have a:=a.trans (Ab hH f1)
     refine Bd ⟨a.trans (As hH dv),dv.at (i:=2) rfl,dv.at (i:=3) rfl,dv.at (i:=7) rfl⟩ fun kI920=>?_;refine Ea (i:=14) (by kernel_rfl) rfl ?_;have ho:=ho.mono (Ab hH (fz.trans (f0.trans f1)));refine Bo (r:=.tree) (l:=x) (m:=[((a0.getD b.toNat default).2)]) 5 rfl rfl Abo GL rfl (by decide) rfl hH dv rfl (((ae.mono e).mono c).mono a) ho ac ?_;intro nc rs lo b4 f2 hs;have a:=a.trans (Ab hH f2);refine Bd ⟨a.trans (As hH b4),b4.at (i:=2) rfl,b4.at (i:=3) rfl,b4.at (i:=7) rfl⟩ fun kI922=>?_;refine Ea (i:=16) (by kernel_rfl) rfl<|Bi 7 rfl rfl (row_one (b4.at (i:=4) rfl)) Jo b4 rfl rfl fun rt lp dw=>Cs [0,1,2,3,4,5,6,7,8,9,10,11,12,13,14,15] (by kernel_rfl)<|Ea (i:=17) (by kernel_rfl) rfl<|Ar 1 rfl<|Cs [0,1,2,3,4,5,6,7,8,9,10,11,12,13,14,15,16] (by kernel_rfl)<|Ea (i:=18) (by kernel_rfl) rfl<|Ar 1 rfl<|Ex (by kernel_rfl)<|Dz (by kernel_rfl) ?_;have hq:=hq.mono (Ab hH (f1.trans (f2.trans dw)));have hr:=hr.mono (Ab hH (f2.trans dw));have hs:=hs.mono (Ab hH dw);have a:=a.trans (Ab hH dw)
     refine A9 ((aa++[(d.1.1,d.1.2.1,d.1.2.2)]),(x++[((a0.getD b.toNat default).2)]),(y++[(a0.getD b.toNat default).1]),na,lm,nc,lo,nb,ln) (.cons rfl (.cons rfl (.cons rfl (.cons rfl (.cons rfl (.cons rfl (.cons rfl (.cons rfl (Sub.nil _))))))))) ⟨lp,((g.mono c).mono a),((k.mono c).mono a),((o.mono c).mono a),hq,hs,hr,h⟩
    obtain⟨ag,h⟩:=Ac h;obtain⟨ab,h⟩:=Ac h;obtain⟨ac,h⟩:=Ac h;refine Br (r:=.tree) (l:=[((a0.getD b.toNat default).2)]) rfl (fun _=>IK _ _ _ _ _ _) rfl (show 1≤9223372036854775807 by decide) hH az (.c5 (Go.E.Rp.D0 ⟨_,_,rfl,rfl,⟨_,_,rfl,rfl,⟨_,_,rfl,⟨_,rfl,(e618h3.mono (Ai hH))⟩,⟨_,_,rfl,⟨_,rfl,(e618h4.mono (Ai hH))⟩,⟨_,rfl,(e618h5.mono (Ai hH))⟩⟩⟩⟩⟩) .nil) ?_;intro ru rv om b5 jq au;have a:=a.trans (Ab hH jq);refine Bd ⟨a.trans (As hH b5),b5.at (i:=2) rfl,b5.at (i:=3) rfl,b5.at (i:=7) rfl⟩ fun kI925=>?_;refine Xd (i:=3) (j:=8) (by kernel_rfl) rfl rfl ?_ ?_
    ·have g:=g.mono (Ab hH (p.trans (q.trans (t.trans u))));have k:=k.mono (Ab hH (p.trans (q.trans (t.trans u))));have o:=o.mono (Ab hH (p.trans (q.trans (t.trans u))));have c:=c.trans (Ab hH (a6.trans (a7.trans (a8.trans bc))));refine Br (r:=(.pair (.vec (.int .i64)) (.pair (.vec (.int .i64)) (.vec (.int .i64))))) (l:=[(d.1.1,d.1.2.1,d.1.2.2)]) rfl (fun _=>OH _ _ _ _) rfl (show 1≤9223372036854775807 by decide) hH b5 (.c3 ⟨_,_,rfl,⟨_,rfl,((g.mono c).mono a)⟩,⟨_,_,rfl,⟨_,rfl,((k.mono c).mono a)⟩,⟨_,rfl,((o.mono c).mono a)⟩⟩⟩ .nil) ?_;intro rx ry oo b7 f3 eq;have a:=a.trans (Ab hH f3);refine Bd ⟨a.trans (As hH b7),b7.at (i:=2) rfl,b7.at (i:=3) rfl,b7.at (i:=7) rfl⟩ fun kI927=>?_;refine Xd (i:=4) (j:=8) (by kernel_rfl) rfl rfl ?_ ?_
     ·have e:=e.trans (Ab hH (aj.trans (ak.trans (al.trans (p.trans (q.trans (t.trans u)))))));refine Bo (r:=(.pair (.vec (.int .i64)) (.pair (.vec (.int .i64)) (.vec (.int .i64))))) (l:=aa) (m:=[(d.1.1,d.1.2.1,d.1.2.2)]) 4 rfl rfl AbA FQ rfl (by decide) rfl hH b7 rfl (((ah.mono e).mono c).mono a) eq ag ?_;intro nd rz lq dx io ht;have a:=a.trans (Ab hH io);refine Bd ⟨a.trans (As hH dx),dx.at (i:=2) rfl,dx.at (i:=3) rfl,dx.at (i:=7) rfl⟩ fun kI929=>?_;refine AG 15 ad kI929 (by kernel_rfl) rfl (fun _ _=>Ag rfl Ab9 rfl Jo (by decide)) rfl<|Ea (i:=8) (by kernel_rfl) rfl<|Br (r:=(.vec .byte)) (l:=[(a0.getD b.toNat default).1]) rfl (fun _=>K1 _ e618h0.one _) rfl (show 1≤9223372036854775807 by decide) hH dx (.c1 ⟨_,rfl,(e618h0.mono (Ai hH))⟩ .nil) ?_;intro r0 r1 op dy f4 lr;have a:=a.trans (Ab hH f4);refine Bd ⟨a.trans (As hH dy),dy.at (i:=2) rfl,dy.at (i:=3) rfl,dy.at (i:=7) rfl⟩ fun kI931=>?_;refine Ea (i:=9) (by kernel_rfl) rfl<|Bo (r:=(.vec .byte)) (l:=y) (m:=[(a0.getD b.toNat default).1]) 6 rfl rfl Abp Fs rfl (by decide) rfl hH dy rfl (((af.mono e).mono c).mono a) lr ab ?_
      intro nf r2 ls dz f5 hu;have a:=a.trans (Ab hH f5);refine Bd ⟨a.trans (As hH dz),dz.at (i:=2) rfl,dz.at (i:=3) rfl,dz.at (i:=7) rfl⟩ fun kI933=>?_;refine Ea (i:=14) (by kernel_rfl) rfl ?_;have au:=au.mono (Ab hH (f3.trans (io.trans (f4.trans f5))));refine Bo (r:=.tree) (l:=x) (m:=[((a0.getD b.toNat default).2)]) 5 rfl rfl Abo GL rfl (by decide) rfl hH dz rfl (((ae.mono e).mono c).mono a) au ac ?_;intro ng r3 lt b8 f6 hv;have a:=a.trans (Ab hH f6);refine Bd ⟨a.trans (As hH b8),b8.at (i:=2) rfl,b8.at (i:=3) rfl,b8.at (i:=7) rfl⟩ fun kI935=>?_;refine Ea (i:=16) (by kernel_rfl) rfl<|Bi 7 rfl rfl (row_one (b8.at (i:=4) rfl)) Jo b8 rfl rfl fun r4 lu d0=>Cs [0,1,2,3,4,5,6,7,8,9,10,11,12,13,14,15] (by kernel_rfl)<|Ea (i:=17) (by kernel_rfl) rfl<|Ar 1 rfl<|Cs [0,1,2,3,4,5,6,7,8,9,10,11,12,13,14,15,16] (by kernel_rfl)<|Ea (i:=18) (by kernel_rfl) rfl<|Ar 1 rfl<|Ex (by kernel_rfl)<|Dz (by kernel_rfl) ?_;have ht:=ht.mono (Ab hH (f4.trans (f5.trans (f6.trans d0))));have hu:=hu.mono (Ab hH (f6.trans d0))
      have hv:=hv.mono (Ab hH d0);have a:=a.trans (Ab hH d0);refine A9 ((aa++[(d.1.1,d.1.2.1,d.1.2.2)]),(x++[((a0.getD b.toNat default).2)]),(y++[(a0.getD b.toNat default).1]),nd,lq,ng,lt,nf,ls) (.cons rfl (.cons rfl (.cons rfl (.cons rfl (.cons rfl (.cons rfl (.cons rfl (.cons rfl (Sub.nil _))))))))) ⟨lu,((g.mono c).mono a),((k.mono c).mono a),((o.mono c).mono a),ht,hv,hu,h⟩
     refine Br (r:=(.vec .byte)) (l:=[(a0.getD b.toNat default).1]) rfl (fun _=>K1 _ e618h0.one _) rfl (show 1≤9223372036854775807 by decide) hH b7 (.c1 ⟨_,rfl,(e618h0.mono (Ai hH))⟩ .nil) ?_;intro r5 r6 oq d1 f7 hw;have a:=a.trans (Ab hH f7);refine Bd ⟨a.trans (As hH d1),d1.at (i:=2) rfl,d1.at (i:=3) rfl,d1.at (i:=7) rfl⟩ fun kI938=>?_;refine Ea (i:=4) (by kernel_rfl) rfl ?_;have e:=e.trans (Ab hH (aj.trans (ak.trans (al.trans (p.trans (q.trans (t.trans u)))))));have eq:=eq.mono (Ab hH f7);refine Bo (r:=(.pair (.vec (.int .i64)) (.pair (.vec (.int .i64)) (.vec (.int .i64))))) (l:=aa) (m:=[(d.1.1,d.1.2.1,d.1.2.2)]) 4 rfl rfl AbA FQ rfl (by decide) rfl hH d1 rfl (((ah.mono e).mono c).mono a) eq ag ?_;intro nh r7 lv d2 f8 hx;have a:=a.trans (Ab hH f8);refine Bd ⟨a.trans (As hH d2),d2.at (i:=2) rfl,d2.at (i:=3) rfl,d2.at (i:=7) rfl⟩ fun kI940=>?_;refine AG 15 ad kI940 (by kernel_rfl) rfl (fun _ _=>Ag rfl Ab9 rfl Jo (by decide)) rfl<|Ea (i:=9) (by kernel_rfl) rfl ?_;have hw:=hw.mono (Ab hH f8)
     refine Bo (r:=(.vec .byte)) (l:=y) (m:=[(a0.getD b.toNat default).1]) 6 rfl rfl Abp Fs rfl (by decide) rfl hH d2 rfl (((af.mono e).mono c).mono a) hw ab ?_;intro ni r8 lw d3 f9 hy;have a:=a.trans (Ab hH f9);refine Bd ⟨a.trans (As hH d3),d3.at (i:=2) rfl,d3.at (i:=3) rfl,d3.at (i:=7) rfl⟩ fun kI942=>?_;refine Ea (i:=14) (by kernel_rfl) rfl ?_;have au:=au.mono (Ab hH (f3.trans (f7.trans (f8.trans f9))));refine Bo (r:=.tree) (l:=x) (m:=[((a0.getD b.toNat default).2)]) 5 rfl rfl Abo GL rfl (by decide) rfl hH d3 rfl (((ae.mono e).mono c).mono a) au ac ?_;intro nj r9 lx b9 ga hz;have a:=a.trans (Ab hH ga);refine Bd ⟨a.trans (As hH b9),b9.at (i:=2) rfl,b9.at (i:=3) rfl,b9.at (i:=7) rfl⟩ fun kI944=>?_;refine Ea (i:=16) (by kernel_rfl) rfl<|Bi 7 rfl rfl (row_one (b9.at (i:=4) rfl)) Jo b9 rfl rfl fun sa ly d4=>Cs [0,1,2,3,4,5,6,7,8,9,10,11,12,13,14,15] (by kernel_rfl)<|Ea (i:=17) (by kernel_rfl) rfl<|Ar 1 rfl<|Cs [0,1,2,3,4,5,6,7,8,9,10,11,12,13,14,15,16] (by kernel_rfl)<|Ea (i:=18) (by kernel_rfl) rfl<|Ar 1 rfl<|Ex (by kernel_rfl) ?_
     refine Dz (by kernel_rfl) ?_;have hx:=hx.mono (Ab hH (f9.trans (ga.trans d4)));have hy:=hy.mono (Ab hH (ga.trans d4));have hz:=hz.mono (Ab hH d4);have a:=a.trans (Ab hH d4);refine A9 ((aa++[(d.1.1,d.1.2.1,d.1.2.2)]),(x++[((a0.getD b.toNat default).2)]),(y++[(a0.getD b.toNat default).1]),nh,lv,nj,lx,ni,lw) (.cons rfl (.cons rfl (.cons rfl (.cons rfl (.cons rfl (.cons rfl (.cons rfl (.cons rfl (Sub.nil _))))))))) ⟨ly,((g.mono c).mono a),((k.mono c).mono a),((o.mono c).mono a),hx,hz,hy,h⟩
    refine Br (r:=(.vec .byte)) (l:=[(a0.getD b.toNat default).1]) rfl (fun _=>K1 _ e618h0.one _) rfl (show 1≤9223372036854775807 by decide) hH b5 (.c1 ⟨_,rfl,(e618h0.mono (Ai hH))⟩ .nil) ?_;intro sb sc os d5 ip h0;have a:=a.trans (Ab hH ip);refine Bd ⟨a.trans (As hH d5),d5.at (i:=2) rfl,d5.at (i:=3) rfl,d5.at (i:=7) rfl⟩ fun kI947=>?_;refine Ea (i:=3) (by kernel_rfl) rfl ?_;have g:=g.mono (Ab hH (p.trans (q.trans (t.trans u))));have k:=k.mono (Ab hH (p.trans (q.trans (t.trans u))));have o:=o.mono (Ab hH (p.trans (q.trans (t.trans u))));have c:=c.trans (Ab hH (a6.trans (a7.trans (a8.trans bc))));refine Br (r:=(.pair (.vec (.int .i64)) (.pair (.vec (.int .i64)) (.vec (.int .i64))))) (l:=[(d.1.1,d.1.2.1,d.1.2.2)]) rfl (fun _=>OH _ _ _ _) rfl (show 1≤9223372036854775807 by decide) hH d5 (.c3 ⟨_,_,rfl,⟨_,rfl,((g.mono c).mono a)⟩,⟨_,_,rfl,⟨_,rfl,((k.mono c).mono a)⟩,⟨_,rfl,((o.mono c).mono a)⟩⟩⟩ .nil) ?_;intro sd se ot d6 gb lz;have a:=a.trans (Ab hH gb);refine Bd ⟨a.trans (As hH d6),d6.at (i:=2) rfl,d6.at (i:=3) rfl,d6.at (i:=7) rfl⟩ fun kI949=>?_
    refine Ea (i:=4) (by kernel_rfl) rfl ?_;have e:=e.trans (Ab hH (aj.trans (ak.trans (al.trans (p.trans (q.trans (t.trans u)))))));refine Bo (r:=(.pair (.vec (.int .i64)) (.pair (.vec (.int .i64)) (.vec (.int .i64))))) (l:=aa) (m:=[(d.1.1,d.1.2.1,d.1.2.2)]) 4 rfl rfl AbA FQ rfl (by decide) rfl hH d6 rfl (((ah.mono e).mono c).mono a) lz ag ?_;intro nk sf l0 d7 gc h1;have a:=a.trans (Ab hH gc);refine Bd ⟨a.trans (As hH d7),d7.at (i:=2) rfl,d7.at (i:=3) rfl,d7.at (i:=7) rfl⟩ fun kI951=>?_;refine AG 15 ad kI951 (by kernel_rfl) rfl (fun _ _=>Ag rfl Ab9 rfl Jo (by decide)) rfl<|Ea (i:=9) (by kernel_rfl) rfl ?_;have h0:=h0.mono (Ab hH (gb.trans gc));refine Bo (r:=(.vec .byte)) (l:=y) (m:=[(a0.getD b.toNat default).1]) 6 rfl rfl Abp Fs rfl (by decide) rfl hH d7 rfl (((af.mono e).mono c).mono a) h0 ab ?_;intro nl sg l1 d8 gd h2;have a:=a.trans (Ab hH gd);refine Bd ⟨a.trans (As hH d8),d8.at (i:=2) rfl,d8.at (i:=3) rfl,d8.at (i:=7) rfl⟩ fun kI953=>?_;refine Ea (i:=14) (by kernel_rfl) rfl ?_;have au:=au.mono (Ab hH (ip.trans (gb.trans (gc.trans gd))))
    refine Bo (r:=.tree) (l:=x) (m:=[((a0.getD b.toNat default).2)]) 5 rfl rfl Abo GL rfl (by decide) rfl hH d8 rfl (((ae.mono e).mono c).mono a) au ac ?_;intro nm sh l2 ca ge h3;have a:=a.trans (Ab hH ge);refine Bd ⟨a.trans (As hH ca),ca.at (i:=2) rfl,ca.at (i:=3) rfl,ca.at (i:=7) rfl⟩ fun kI955=>?_;refine Ea (i:=16) (by kernel_rfl) rfl<|Bi 7 rfl rfl (row_one (ca.at (i:=4) rfl)) Jo ca rfl rfl fun si l3 d9=>Cs [0,1,2,3,4,5,6,7,8,9,10,11,12,13,14,15] (by kernel_rfl)<|Ea (i:=17) (by kernel_rfl) rfl<|Ar 1 rfl<|Cs [0,1,2,3,4,5,6,7,8,9,10,11,12,13,14,15,16] (by kernel_rfl)<|Ea (i:=18) (by kernel_rfl) rfl<|Ar 1 rfl<|Ex (by kernel_rfl)<|Dz (by kernel_rfl) ?_;have h1:=h1.mono (Ab hH (gd.trans (ge.trans d9)));have h2:=h2.mono (Ab hH (ge.trans d9));have h3:=h3.mono (Ab hH d9);have a:=a.trans (Ab hH d9)
    refine A9 ((aa++[(d.1.1,d.1.2.1,d.1.2.2)]),(x++[((a0.getD b.toNat default).2)]),(y++[(a0.getD b.toNat default).1]),nk,l0,nm,l2,nl,l1) (.cons rfl (.cons rfl (.cons rfl (.cons rfl (.cons rfl (.cons rfl (.cons rfl (.cons rfl (Sub.nil _))))))))) ⟨l3,((g.mono c).mono a),((k.mono c).mono a),((o.mono c).mono a),h1,h3,h2,h⟩
   rintro⟨ef,eg,eh,ci,a9,cj,ba,ck,bb⟩ ou ⟨i6,nn,no,np,jr,js,jt,h⟩;refine AA<|Ao ?_;have ea:=i6.rG H;refine Aq ?_;obtain⟨l4,h⟩:=Ac h;refine Af (AK rfl rfl rfl l4) rfl<|Ar 1 rfl<|AL ?_;have l5:=i6.AP (i:=0) rfl;have l6:=l5.AP (i:=0) rfl;have l7:=l6.AP (i:=0) rfl;have l8:=l7.AP (i:=0) rfl;have h:=BF.again h i1;have ea:=ea.trans (Ab hH ((Am (i:=0) rfl).trans ((Am (i:=0) rfl).trans ((Am (i:=0) rfl).trans (Am (i:=0) rfl)))));refine AO (eg,eh,ef,(b+(1:Int)),cj,ba,ck,bb,ci,a9,ix) (.cons rfl (.cons rfl (.cons rfl (.cons rfl (.cons rfl (.cons rfl (.cons rfl (.cons rfl (Sub.nil _))))))))) ⟨l8,(jr.mono ea),(js.mono ea),(jt.mono ea),h⟩ (Nat.lt_succ_self _)
  have h:=A2 gj h;refine Bq<|AH<|A6 ?_;have h:=BF.out h i1;refine Bf<|A9 (x,y,aa,a2,av,a3,aw,ap,ax) (.cons rfl (.cons rfl (.cons rfl (.cons rfl (.cons rfl (Sub.nil _)))))) ⟨en,(ah.mono e),(ae.mono e),(af.mono e),h⟩
 rintro⟨ev,ew,a5,el,cc,em,cd,bd,a1⟩ ov ⟨i7,iq,ju,jv,h⟩;have ai:=i7.rG H;refine Al<|AJ AT rfl rfl i7 fun sj jw i8 jx _=>Ad<|Bm (σ:=Int×Int×Int×(List (Aas×(List (Int×Int))))×Int×(List ((Aas×Int×Int×Aas)×(List Int)))×Value×Value) (fun⟨h4,h5,h6,h7,h8,h9,er,es⟩=>[(2,(Aam b1)),(3,(Aam b2)),(4,(Aam b6)),(12,(Aam jw))]) (fun⟨h4,h5,h6,h7,h8,h9,er,es⟩ wr=>DM w [.box jw [No h4,No h5] 28,.row (bd) 98 3 (a5).length (a1),.box b6 [No h6,er,No h8,es,bd] 52,.box b2 [No (0:Int),No (0:Int)] 28,.box b1 [No (0:Int),Aak,No (0:Int),Aak,Aak] 52] wr fun Oz=>AM (.pair (.vec (.int .i64)) (.pair (.vec (.int .i64)) (.vec (.int .i64)))) (gz H w wr Oz) (a5) (a1)∧AI (.pair .st (.vec (.pair (.int .i64) (.int .i64)))) (gz H w wr Oz) (er) (h7)∧AI (.pair (.pair .st (.pair (.int .i64) (.pair (.int .i64) .st))) (.vec (.int .i64))) (gz H w wr Oz) (es) (h9)∧(Hr a5) h4 h5 h6 h7 h8 h9=some r) ?_ ?_
 ·refine Bl 1 rfl ?_;have ai:=ai.trans (Ab hH jx);have l9:=i8.Ct hH (i:=3) rfl (jv.mono ai);have ia:=i8.AP (i:=3) rfl;obtain⟨ei,ma,h⟩:=Go.L.bind_some h;refine Ax rfl rfl ia (Rz _ _ (As hH ia) (hU.mono (Ai hH)) l9 ma) ?_;rintro _ sk ⟨ir,rfl,jc⟩ mb mc is;have ao:=jc.mono (Cj hH ia mb);refine Ar 3 rfl<|Af (Ag rfl Ab9 rfl Oy (by decide)) rfl<|Si 3 0 rfl rfl rfl Oy mc rfl rfl rfl (AF rfl (AF ao.one BM)) fun sl md eb=>Ak 0 rfl rfl rfl AT md rfl rfl (AF rfl (AF rfl BM)) fun sm et ec=>Ad<|Al<|Af (AE 0 rfl AaR rfl AT et rfl) rfl<|Af (AW rfl (fun _=>BL _)) rfl<|Af (T9 rfl rfl IC (LA _ _ _ _)) rfl<|Ad<|Bg rfl (fun ib=>?_) (fun ib=>?_)
  ·have h:=A1 ib h;refine Aq<|Ar 1 rfl ?_;have ai:=ai.trans (Ab hH ((Am (i:=3) rfl).trans (is.trans (eb.trans ec))));have me:=et.Ct hH (i:=2) rfl (ju.mono ai);have ic:=et.AP (i:=2) rfl;obtain⟨ie,mf,h⟩:=Go.L.bind_some h;refine Ax rfl rfl ic (Qq _ _ (As hH ic) me mf) ?_;rintro _ sn ⟨jy,rfl,jd⟩ mg mh it;have cb:=jd.mono (Cj hH ic mg);refine Ar 3 rfl<|Af (Ag rfl Ab9 rfl Qd (by decide)) rfl<|Si 2 2 rfl rfl rfl Qd mh rfl rfl rfl (AF rfl (AF cb.one BM)) fun ow jz ej=>Ak 0 rfl rfl rfl AT jz rfl rfl (AF rfl (AF rfl BM)) fun ox j0 ek=>AL ?_;have ao:=ao.mono (Ab hH (eb.trans (ec.trans ((Am (i:=2) rfl).trans (it.trans (ej.trans ek))))));have ai:=ai.trans (Ab hH ((Am (i:=2) rfl).trans (it.trans (ej.trans ek))));have cb:=cb.mono (Ab hH (ej.trans ek));refine A9 (ie.2.1,ie.2.2,ei.1.1,ei.1.2,ie.1.1,ie.1.2,ir,jy) (.cons rfl (.cons rfl (.cons rfl (.cons rfl (Sub.nil _))))) ⟨j0,(iq.mono ai),ao,cb,h⟩
  have h:=A2 ib h;refine Av ?_;have ai:=ai.trans (Ab hH ((Am (i:=3) rfl).trans (is.trans (eb.trans ec))));have j1:=et.AP (i:=2) rfl;have ao:=ao.mono (Ab hH (eb.trans (ec.trans (Am (i:=2) rfl))));have ai:=ai.trans (Ab hH (Am (i:=2) rfl));refine A9 (ei.2.1,ei.2.2,ei.1.1,ei.1.2,(0:Int),[],ir,Aak) (.cons rfl (.cons rfl (.cons rfl (.cons rfl (Sub.nil _))))) ⟨j1,(iq.mono ai),ao,(AI.nil _ _),h⟩
 rintro⟨h4,h5,h6,h7,h8,h9,er,es⟩ oy ⟨ed,he988_j404,iu,iv,h⟩;refine A8 ?_;have ay:=ed.rG H;refine Al<|Af (AE 0 rfl AaR rfl AT ed rfl) rfl<|Af (AW rfl (fun _=>BL _)) rfl<|Af (Kv rfl rfl IC (LA _ _ _ _)) rfl<|Ad<|C9 rfl (fun gf=>?_) (fun gf=>?_)
 ·have h:=A2 gf h
  cases h
 have h:=A1 gf h;refine Av<|Ao<|Al<|Af (AE 2 rfl Ab9 rfl MJ ed rfl) rfl<|Af (AW rfl (fun _=>BL _)) rfl<|Ak 4 rfl rfl rfl MJ ed rfl rfl (AF rfl (AF (iu.mono ay).one (AF rfl (AF (iv.mono ay).one (AF (row_one (ed.at (i:=1) rfl)) BM))))) fun oz j2 je=>Ak 3 rfl rfl rfl AT j2 rfl rfl (AF rfl (AF rfl BM)) fun o0 ee jf=>Ad<|Az ?_;obtain rfl:=Option.some.inj h;refine Cm rfl (.cell rfl Ab9 rfl MJ (AS (i:=4) ee rfl)) (.cell rfl AaR rfl AT (AS (i:=3) ee rfl)) ?_;have ay:=ay.trans (Ab hH (je.trans jf));exact⟨ee.ext,_,_,_,rfl,((iu.mono ay).mono (Cu hH)),((iv.mono ay).mono (Cu hH)),(ee.Gp hH (i:=1) rfl (he988_j404.mono ay))⟩
def C6(a0:(Int×(List (Aas×(List (Int×Int)))))×(Int×(List ((Aas×Int×Int×Aas)×(List Int))))×(List (((List Int))×(List Int)×(List Int)))):Option (Int):=
 some ((a0.2.2.length:Int))
theorem EH(w:World)(H:PH)(_hH:Le H (hp w)){a0:(Int×(List (Aas×(List (Int×Int)))))×(Int×(List ((Aas×Int×Int×Aas)×(List Int))))×(List (((List Int))×(List Int)×(List Int)))}{a:Value}{b:Value}{c:Value}(_h0_0:AI (.pair .st (.vec (.pair (.int .i64) (.int .i64)))) H a (a0.1.2))(_h0_1:AI (.pair (.pair .st (.pair (.int .i64) (.pair (.int .i64) .st))) (.vec (.int .i64))) H b (a0.2.1.2))(e:AI (.pair (.vec (.int .i64)) (.pair (.vec (.int .i64)) (.vec (.int .i64)))) H c (a0.2.2)){r:Int}(h:C6 a0=some r):
  Ok Tryz.prog 22 [.agg #[No a0.1.1,a,No a0.2.1.1,b,c]] w (fun v w'=>Ext w w'∧v=No r):=by
 refine A5 (n:=6) [(0,.agg #[No a0.1.1,a,No a0.2.1.1,b,c])] func22 rfl rfl rfl rfl rfl ?_;have hL:=AR.start w;refine Al<|Cv (t:=52) rfl rfl rfl hL fun g i d f _=>AB 1 rfl<|Al<|Af (Ag rfl Ab9 rfl Jo (by decide)) rfl<|Af (Ah 0 rfl AbA rfl d rfl rfl) rfl<|Af (Bn rfl AbA e) rfl<|AB 1 rfl<|Az ?_;obtain rfl:=Option.some.inj h;refine An rfl rfl ?_;exact⟨d.ext,rfl⟩
def FJ(a:List Bool):Option ((List Bool)):=
 some (a)
def Fj(a1:List Int):(List Bool)×Int→Option (((List Bool)×Int) ⊕ ((List Bool))):=fun⟨b,a⟩=>
 if a<(a1.length:Int) then AY (0≤a∧a<(a1.length:Int)) (AY (0≤a1.getD a.toNat default∧a1.getD a.toNat default<(b.length:Int)) (AY (BJ (a+(1:Int))) (some (Sum.inl ((b.set ((a1.getD a.toNat default).toNat) true),(a+(1:Int))))))) else Option.map Sum.inr (FJ b)
def H5(a1:List Int)(s:(List Bool)×Int):Option ((List Bool)):=Go.L.run (Fj a1) s
def Hj(a0:(Int×(List (Aas×(List (Int×Int)))))×(Int×(List ((Aas×Int×Int×Aas)×(List Int))))×(List (((List Int))×(List Int)×(List Int))))(a1:List Int):Option ((List Bool)):=
 Option.bind (C6 ((a0.1.1,a0.1.2),(a0.2.1.1,a0.2.1.2),a0.2.2)) (fun a=>AY (0≤a∧((1:Nat):Int) * a≤281474976710656∧a≤9223372036854775807) ((H5 a1) ((List.replicate a.toNat (false:Bool)),(0:Int))))
theorem MR(w:World)(H:PH)(hH:Le H (hp w)){a0:(Int×(List (Aas×(List (Int×Int)))))×(Int×(List ((Aas×Int×Int×Aas)×(List Int))))×(List (((List Int))×(List Int)×(List Int)))}{a1:List Int}{e:Value}{f:Value}{g:Value}{k:Value}(ae:AI (.pair .st (.vec (.pair (.int .i64) (.int .i64)))) H e (a0.1.2))(af:AI (.pair (.pair .st (.pair (.int .i64) (.pair (.int .i64) .st))) (.vec (.int .i64))) H f (a0.2.1.2))(ag:AI (.pair (.vec (.int .i64)) (.pair (.vec (.int .i64)) (.vec (.int .i64)))) H g (a0.2.2))(s:AI (.int .i64) H k (a1)){r:(List Bool)}(h:Hj a0 a1=some r):
  Ok Tryz.prog 91 [.agg #[No a0.1.1,e,No a0.2.1.1,f,g],k] w (fun v w'=>Ext w w'∧∃ u0,v=u0∧Co 4 .bool H w w' u0 (r)):=by
 refine A5 (n:=22) [(0,.agg #[No a0.1.1,e,No a0.2.1.1,f,g]),(1,k)] func91 rfl rfl rfl rfl rfl ?_;have hL:=AR.start w;refine Al<|Cv (t:=52) rfl rfl rfl hL fun w1 b1 u ay _=>AB 1 rfl<|Al<|Af (AE 0 rfl Ab9 rfl MJ u rfl) rfl ?_;obtain⟨x2,ap,h⟩:=Go.L.bind_some h;refine Ax rfl rfl u (EH (a0:=((a0.1.1,a0.1.2),(a0.2.1.1,a0.2.1.2),a0.2.2)) _ _ (As hH u) (ae.mono (Ai hH)) (af.mono (Ai hH)) (ag.mono (Ai hH)) ap) ?_;rintro _ w3 rfl a6 aq a2;obtain⟨ar,h⟩:=Ac h;refine S9 (r:=.bool) (z:=(false:Bool)) rfl rfl rfl AbB YC rfl (fun _=>rfl) rfl hH aq ar fun v4 w4 au av a3 aw=>AB 1 rfl<|Bm (σ:=(List Bool)×(List Value)) (fun⟨m,d⟩=>[(5,v4)]) (fun⟨m,d⟩ wr=>DM w [.row (v4) 4 1 (m).length (d),.box b1 [No a0.1.1,e,No a0.2.1.1,f,g] 52] wr fun Oz=>AM .bool (gz H w wr Oz) (m) (d)∧FJ m=some r) ?_ ?_
 ·refine Bl 1 rfl<|Af (Bn rfl Aat s) rfl<|AB 1 rfl<|A4 ?_;obtain⟨x,h⟩:=Bb h;refine Bu (σ:=(List Bool)×Int×(List Value)×Nat) (fun⟨c,a,b,n⟩=>[(5,v4),(11,k),(12,No (a1.length:Int)),(13,No a)]) (fun⟨c,a,b,n⟩ wr=>DM w [.row (v4) 4 1 (c).length (b),.box b1 [No a0.1.1,e,No a0.2.1.1,f,g] 52] wr fun Oz=>AM .bool (gz H w wr Oz) (c) (b)∧FM (Fj a1) n (c,a)=some r) (fun⟨c,a,b,n⟩=>n) ((List.replicate x2.toNat (false:Bool)),(0:Int),au,x) (.cons rfl (.cons rfl (.cons rfl (.cons rfl (Sub.nil _))))) ⟨av,aw,h⟩ ?_;rintro⟨c,a,b,nn44⟩ a4 ⟨l,q,h⟩;obtain⟨x,a7,rfl,h,y⟩:=Ba h;refine AD 1 rfl<|A8<|Bg rfl (fun o=>?_) (fun o=>?_)
  ·have h:=A1 o h;refine Av<|Ao<|A8<|A4<|Al ?_;obtain⟨aa,h⟩:=Ac h;refine Be rfl rfl Aat BG s a.toNat (Int.toNat_of_nonneg aa.1).symm (AZ aa) rfl ?_;rintro a8 _ rfl ah;refine Af (Bh rfl Aau rfl ah (hH.trans l.arg)) rfl<|AB 1 rfl<|Aq<|Ar 2 rfl ?_;obtain⟨p,h⟩:=Ac h;refine KH 0 rfl rfl AbB YC l rfl ((a1.getD a.toNat default).toNat) (Int.toNat_of_nonneg p.1).symm (AZ p) rfl fun a9 ai=>KI (z:=true) (j:=(a1.getD a.toNat default).toNat) 0 rfl rfl rfl YC hH l rfl q ai rfl (AZ p) rfl fun ba aj ak ax al=>AL<|AA<|Ao<|Aq ?_;obtain⟨am,h⟩:=Ac h;refine Af (AK rfl rfl rfl am) rfl<|Ar 1 rfl<|AL ?_;have h:=BF.again h y;refine AO ((c.set ((a1.getD a.toNat default).toNat) true),(a+(1:Int)),aj,x) (.cons rfl (.cons rfl (.cons rfl (.cons rfl (Sub.nil _))))) ⟨ak,al,h⟩ (Nat.lt_succ_self _)
  have h:=A2 o h;refine Bq<|AH<|A6 ?_;have h:=BF.out h y;refine Bf<|A9 (c,b) (.cons rfl (Sub.nil _)) ⟨l,q,h⟩
 rintro⟨m,d⟩ a5 ⟨ab,ad,h⟩;refine AD 2 rfl<|Az ?_;obtain rfl:=Option.some.inj h;refine An rfl rfl ?_;exact⟨ab.ext,_,rfl,(ab.Gp hH (i:=0) rfl ad)⟩
def I3(a:List Int):Option ((List Int)):=
 some (a)
def HK(a0:List (Int×Int)):(List Int)×Int→Option (((List Int)×Int) ⊕ ((List Int))):=fun⟨b,a⟩=>
 if a<(a0.length:Int) then AY (0≤a∧a<(a0.length:Int)) (AY (Go.E.JE 8 (b.length+([(a0.getD a.toNat default).1]).length)) (AY (BJ (a+(1:Int))) (some (Sum.inl ((b++[(a0.getD a.toNat default).1]),(a+(1:Int))))))) else Option.map Sum.inr (I3 b)
def JR(a0:List (Int×Int))(s:(List Int)×Int):Option ((List Int)):=Go.L.run (HK a0) s
def JZ(a0:List (Int×Int)):Option ((List Int)):=
 (JR a0) (([]:List Int),(0:Int))
theorem PC(w:World)(H:PH)(hH:Le H (hp w)){a0:List (Int×Int)}{g:Value}(s:AI (.pair (.int .i64) (.int .i64)) H g (a0)){r:(List Int)}(h:JZ a0=some r):
  Ok Tryz.prog 145 [g] w (fun v w'=>Ext w w'∧∃ u0,v=u0∧Co 3 (.int .i64) H w w' u0 (r)):=by
 refine A5 (n:=19) [(0,g)] func145 rfl rfl rfl rfl rfl ?_;have hL:=AR.start w;refine AD 1 rfl<|Bl 1 rfl ?_;obtain⟨ao,au,ap⟩:=Ck (.int .i64) H 3 hL;refine Ad<|Bm (σ:=(List Int)×Value×(List Value)) (fun⟨k,j,e⟩=>[(3,j)]) (fun⟨k,j,e⟩ wr=>DM w [.row (j) 3 1 (k).length (e)] wr fun Oz=>AM (.int .i64) (gz H w wr Oz) (k) (e)∧I3 k=some r) ?_ ?_
 ·refine Bl 1 rfl<|Af (Bn rfl Aba s) rfl<|AB 1 rfl<|A4 ?_;obtain⟨t,h⟩:=Bb h;refine Bu (σ:=(List Int)×Int×Value×(List Value)×Nat) (fun⟨c,a,d,b,n⟩=>[(3,d),(6,g),(7,No (a0.length:Int)),(8,No a)]) (fun⟨c,a,d,b,n⟩ wr=>DM w [.row (d) 3 1 (c).length (b)] wr fun Oz=>AM (.int .i64) (gz H w wr Oz) (c) (b)∧FM (HK a0) n (c,a)=some r) (fun⟨c,a,d,b,n⟩=>n) (([]:List Int),(0:Int),Aak,[],t) (.cons rfl (.cons rfl (.cons rfl (.cons rfl (Sub.nil _))))) ⟨ao,ap,h⟩ ?_;rintro⟨c,a,d,b,nn46⟩ av ⟨o,f,h⟩;obtain⟨t,ay,rfl,h,u⟩:=Ba h;refine AD 1 rfl<|A8<|Bg rfl (fun p=>?_) (fun p=>?_)
  ·have h:=A1 p h;refine Av<|Ao<|A8<|A4<|Al ?_;obtain⟨x,h⟩:=Ac h;refine Be rfl rfl Aba Kx s a.toNat (Int.toNat_of_nonneg x.1).symm (AZ x) rfl ?_;rintro az _ ⟨_,_,rfl,rfl,rfl⟩ ae;refine Af (Cd rfl Abv rfl Kx ae (hH.trans o.arg)) rfl<|AJ Kx rfl rfl o fun a1 a2 af aa _=>Ak 0 rfl rfl rfl Kx af rfl rfl (AF rfl (AF rfl BM)) fun a3 y ab=>Ad<|Aq<|Ar 1 rfl<|Af (Ag rfl Abv rfl BG (by decide)) rfl<|Af (Ah 0 rfl Aau rfl y rfl rfl) rfl<|Br (r:=(.int .i64)) (l:=[(a0.getD a.toNat default).1]) rfl (fun _=>Ig _ _) rfl (show 1≤9223372036854775807 by decide) hH y (.c1 rfl .nil) ?_;intro a4 a5 aw ag ac ah;obtain⟨ai,h⟩:=Ac h;have f:=f.mono (Ab hH (aa.trans (ab.trans ac)));refine Bo (r:=(.int .i64)) (l:=c) (m:=[(a0.getD a.toNat default).1]) 1 rfl rfl Aat BG rfl (by decide) rfl hH ag rfl f ah ai fun aq a6 aj ak ar q=>Ar 1 rfl<|AL<|AA<|Ao<|Aq ?_;obtain⟨al,h⟩:=Ac h;refine Af (AK rfl rfl rfl al) rfl<|Ar 1 rfl<|AL ?_
   have am:=ak.AP (i:=0) rfl;have h:=BF.again h u;have q:=q.mono (Ab hH (Am (i:=0) rfl));refine AO ((c++[(a0.getD a.toNat default).1]),(a+(1:Int)),aq,aj,t) (.cons rfl (.cons rfl (.cons rfl (.cons rfl (Sub.nil _))))) ⟨am,q,h⟩ (Nat.lt_succ_self _)
  have h:=A2 p h;refine Bq<|AH<|A6 ?_;have h:=BF.out h u;refine Bf<|A9 (c,d,b) (.cons rfl (Sub.nil _)) ⟨o,f,h⟩
 rintro⟨k,j,e⟩ ax ⟨z,ad,h⟩;refine AD 2 rfl<|Az ?_;obtain rfl:=Option.some.inj h;refine An rfl rfl ?_;exact⟨z.ext,_,rfl,(z.Gp hH (i:=0) rfl ad)⟩
def Fk(a:List (Int×Int)):Option ((List Int)):=
 Option.bind (JZ a) (fun b=>some (b))
def G2(a0:(Int×(List (Aas×(List (Int×Int)))))×(Int×(List ((Aas×Int×Int×Aas)×(List Int))))×(List (((List Int))×(List Int)×(List Int))))(a1:Go.L.Qv):Option ((List Int)):=
 if a1.f.1=(1:Int) then AY (0≤(0:Int)∧(0:Int)<(a1.f.2.1.length:Int)) (Option.bind (Iv (a0.1.1,a0.1.2) (a1.f.2.1.getD ((0:Int).toNat) default)) (fun a=>Fk a.1)) else(if a1.f.1=(2:Int) then none else(if a1.f.1=(3:Int) then none else(if a1.f.1=(4:Int) then none else(if a1.f.1=(5:Int) then none else(if a1.f.1=(6:Int) then none else(if a1.f.1=(7:Int) then none else some ([])))))))
theorem M6(w:World)(H:PH)(hH:Le H (hp w))(hU:Dt H){a0:(Int×(List (Aas×(List (Int×Int)))))×(Int×(List ((Aas×Int×Int×Aas)×(List Int))))×(List (((List Int))×(List Int)×(List Int)))}{a1:Go.L.Qv}{g:Value}{j:Value}{k:Value}{l:Value}{m:Value}{o:Value}(ag:AI (.pair .st (.vec (.pair (.int .i64) (.int .i64)))) H g (a0.1.2))(_h0_1:AI (.pair (.pair .st (.pair (.int .i64) (.pair (.int .i64) .st))) (.vec (.int .i64))) H j (a0.2.1.2))(_h0_2:AI (.pair (.vec (.int .i64)) (.pair (.vec (.int .i64)) (.vec (.int .i64)))) H k (a0.2.2))(a9:AI .st H l (a1.f.2.1))(_h1_1:AI .byte H m (a1.f.2.2.2.1))(_h1_2:AI .AV H o (a1.f.2.2.2.2.2.2)){r:(List Int)}(h:G2 a0 a1=some r):
  Ok Tryz.prog 92 [.agg #[No a0.1.1,g,No a0.2.1.1,j,k],.agg #[No a1.f.1,l,Aar a1.f.2.2.1,m,No a1.f.2.2.2.2.1,No a1.f.2.2.2.2.2.1,o]] w (fun v w'=>Ext w w'∧∃ u0,v=u0∧Co 3 (.int .i64) H w w' u0 (r)):=by
 refine A5 (n:=121) [(0,.agg #[No a0.1.1,g,No a0.2.1.1,j,k]),(1,.agg #[No a1.f.1,l,Aar a1.f.2.2.1,m,No a1.f.2.2.2.2.1,No a1.f.2.2.2.2.2.1,o])] func92 rfl rfl rfl rfl rfl ?_;have hL:=AR.start w;refine Al<|Cv (t:=52) rfl rfl rfl hL fun w1 b1 bn bt _=>Cv (t:=26) rfl rfl rfl bn fun w2 b2 ah bv _=>AB 1 rfl<|AD 1 rfl<|A8<|Al<|Af (Ag rfl AaY rfl BG (by decide)) rfl<|Af (Ah 0 rfl Aau rfl ah rfl rfl) rfl<|Ad<|A4<|AD 2 rfl ?_;refine Bg rfl (fun ai=>?_) (fun ai=>?_)
 ·have h:=A1 ai h;refine Bm (σ:=(List (Int×Int))×Value) (fun⟨c,a⟩=>[(6,a)]) (fun⟨c,a⟩ wr=>DM w [.box b2 [No a1.f.1,l,Aar a1.f.2.2.1,m,No a1.f.2.2.2.2.1,No a1.f.2.2.2.2.2.1,o] 26,.box b1 [No a0.1.1,g,No a0.2.1.1,j,k] 52] wr fun Oz=>AI (.pair (.int .i64) (.int .i64)) (gz H w wr Oz) (a) (c)∧Fk c=some r) ?_ ?_
  ·refine MY (.q 0 (.q 1 (.q 2 (.q 3 (.q 4 (.q 5 (.h2 6 (.q 7 (.q 8 (.q 9 (.h 10 (.q 11 (.tail 12)))))) 10 (.h 6 (.q 7 (.q 8 (.q 9 (.q 11 (.tail 12))))))))))))) mixed (by kernel_rfl) (fun bz ba=>?_);have b:=ah.call ba;refine BE (Ag rfl Ab9 rfl Oy (by decide)) rfl rfl<|BE (QN 1 2 rfl Abh rfl Oy b rfl rfl) rfl rfl<|BE (Ag rfl AaY rfl Jn (by decide)) rfl rfl<|BE (Ah 0 rfl AaT rfl b rfl rfl) rfl rfl ?_;obtain⟨aj,h⟩:=Ac h;refine H7 rfl rfl rfl AaT Fo a9 ((0:Int).toNat) (Int.toNat_of_nonneg aj.1).symm (AZ aj) rfl ?_;rintro b0 _ rfl bb;refine BE (Bh rfl AaG rfl bb (hH.trans b.arg)) rfl rfl<|T5 ?_ ?_
   ·obtain⟨ak,p,h⟩:=Go.L.bind_some h;refine BT rfl rfl rfl (fun bo s=>Ky _ _ (As hH (b.call s)) (hU.mono (Ai hH)) (ag.mono (Ai hH)) p) ?_;rintro bo _ b3 s al ⟨az,rfl,am⟩;have an:=b.call s;have bc:=an.call al;have d:=am.Ct hH an al;refine Ds 3 rfl<|Ml rfl AT rfl rfl bc fun b4 b5 ao a2=>Ds 1 rfl<|BW (fun b6 ap=>?_);have bd:=ao.call ap;have a3:=AX ao ap;refine Ak 0 rfl rfl rfl AT bd rfl rfl (AF rfl (AF rfl BM)) fun b7 be a4=>AL ?_;have bf:=be.AP (i:=0) rfl;have d:=d.mono (Ab hH (a2.trans (a3.trans (a4.trans (Am (i:=0) rfl)))));refine A9 (ak.1,az) (.cons rfl (Sub.nil _)) ⟨bf,d,h⟩
   obtain⟨ak,p,h⟩:=Go.L.bind_some h;refine Ml rfl AT rfl rfl b fun b8 b9 aq bq=>BT rfl rfl rfl (fun bp u=>Ky _ _ (As hH (aq.call u)) (hU.mono (Ai hH)) (ag.mono (Ai hH)) p) ?_;rintro bp _ ca u ar ⟨a5,rfl,au⟩;have av:=aq.call u;have aw:=av.call ar;have e:=au.Ct hH av ar;refine Ds 4 rfl<|BW (fun cb ax=>?_);have bg:=aw.call ax;have a6:=AX aw ax;refine Ak 0 rfl rfl rfl AT bg rfl rfl (AF rfl (AF rfl BM)) fun cc bh a7=>AL ?_;have bi:=bh.AP (i:=0) rfl;have e:=e.mono (Ab hH (a6.trans (a7.trans (Am (i:=0) rfl))));refine A9 (ak.1,a5) (.cons rfl (Sub.nil _)) ⟨bi,e,h⟩
  rintro⟨c,a⟩ bw ⟨x,af,h⟩;refine Aq<|Ar 1 rfl ?_;obtain⟨cd,bj,h⟩:=Go.L.bind_some h;refine Ax rfl rfl x (PC _ _ (As hH x) af bj) ?_;rintro br ce ⟨_,rfl,ay⟩ bk y a8;obtain⟨bx,y,a8,bl⟩:=ay.take hH x bk;refine Ar 1 rfl<|AL<|AA<|Ao<|AD 2 rfl<|Az ?_;obtain rfl:=Option.some.inj h;refine An rfl rfl ?_;exact⟨y.ext,_,rfl,(y.Gp hH (i:=0) rfl bl)⟩
 have h:=A2 ai h;refine AD 2 rfl<|Bg rfl (fun z=>?_) (fun z=>?_)
 ·have h:=A1 z h
  cases h
 have h:=A2 z h;refine AD 2 rfl<|Bg rfl (fun aa=>?_) (fun aa=>?_)
 ·have h:=A1 aa h
  cases h
 have h:=A2 aa h;refine AD 2 rfl<|Bg rfl (fun ab=>?_) (fun ab=>?_)
 ·have h:=A1 ab h
  cases h
 have h:=A2 ab h;refine AD 2 rfl<|Bg rfl (fun ac=>?_) (fun ac=>?_)
 ·have h:=A1 ac h
  cases h
 have h:=A2 ac h;refine AD 2 rfl<|Bg rfl (fun ad=>?_) (fun ad=>?_)
 ·have h:=A1 ad h
  cases h
 have h:=A2 ad h;refine AD 2 rfl<|Bg rfl (fun ae=>?_) (fun ae=>?_)
 ·have h:=A1 ae h
  cases h
 have h:=A2 ae h;refine Av<|AA<|Ao<|AD 2 rfl<|Az ?_;obtain rfl:=Option.some.inj h;refine An rfl rfl ?_;exact⟨ah.ext,_,rfl,Co.nil⟩
def Dc(a:List Bool):Option ((List Bool)):=
 some (a)
def CR(a1:Go.L.Qv)(b:List Bool):Int→Option ((Int) ⊕ ((List Bool))):=fun a=>
 if a<((a1.f.2.2.2.2.2.2.drop (1:Int).toNat).length:Int) then AY (0≤a∧a<((a1.f.2.2.2.2.2.2.drop (1:Int).toNat).length:Int)) (none) else Option.map Sum.inr ((Dc b))
def EJ(a1:Go.L.Qv)(a:List Bool)(s:Int):Option ((List Bool)):=Go.L.run (CR a1 a) s
def Cr(a1:Go.L.Qv)(a:List Bool):Option ((List Bool)):=
 AY (0≤(1:Int)∧(1:Int)≤(a1.f.2.2.2.2.2.2.length:Int)) ((EJ a1 a) (0:Int))
def CS(a1:Go.L.Qv)(c:(List Bool)):(List Bool)×Int→Option (((List Bool)×Int) ⊕ ((List Bool))):=fun⟨b,a⟩=>
 if a<(c.length:Int) then AY (0≤a∧a<(b.length:Int)) (AY (0≤a∧a<(b.length:Int)) (AY (BJ (a+(1:Int))) (some (Sum.inl ((b.set a.toNat (!(b.getD a.toNat default))),(a+(1:Int))))))) else Option.map Sum.inr ((Cr a1) b)
def EK(a1:Go.L.Qv)(a:(List Bool))(s:(List Bool)×Int):Option ((List Bool)):=Go.L.run (CS a1 a) s
def CK(self:((Int×(List (Aas×(List (Int×Int)))))×(Int×(List ((Aas×Int×Int×Aas)×(List Int))))×(List (((List Int))×(List Int)×(List Int))))→Go.L.Qv→Option ((List Bool)))(a0:(Int×(List (Aas×(List (Int×Int)))))×(Int×(List ((Aas×Int×Int×Aas)×(List Int))))×(List (((List Int))×(List Int)×(List Int))))(a1:Go.L.Qv):Option ((List Bool)):=
 Option.bind (Fq a1.f.1) (fun c=>if c then Option.bind (G2 ((a0.1.1,a0.1.2),(a0.2.1.1,a0.2.1.2),a0.2.2) a1) (fun d=>Option.bind (Hj ((a0.1.1,a0.1.2),(a0.2.1.1,a0.2.1.2),a0.2.2) d) (fun b=>some (b))) else AY (0≤(0:Int)∧(0:Int)<(a1.f.2.2.2.2.2.2.length:Int)) (Option.bind (self ((a0.1.1,a0.1.2),(a0.2.1.1,a0.2.1.2),a0.2.2) (a1.f.2.2.2.2.2.2.getD ((0:Int).toNat) default)) (fun a=>if a1.f.1=(10:Int) then(EK a1 a) (a,(0:Int)) else(Cr a1) a)))
def CI:Nat→((Int×(List (Aas×(List (Int×Int)))))×(Int×(List ((Aas×Int×Int×Aas)×(List Int))))×(List (((List Int))×(List Int)×(List Int))))→Go.L.Qv→Option ((List Bool))
 | 0=>fun _ _=>none
 | n+1=>CK (CI n)
def Gg:((Int×(List (Aas×(List (Int×Int)))))×(Int×(List ((Aas×Int×Int×Aas)×(List Int))))×(List (((List Int))×(List Int)×(List Int))))→Go.L.Qv→Option ((List Bool)):=CI 1000
theorem Ku(self:((Int×(List (Aas×(List (Int×Int)))))×(Int×(List ((Aas×Int×Int×Aas)×(List Int))))×(List (((List Int))×(List Int)×(List Int))))→Go.L.Qv→Option ((List Bool)))(hself:∀ (w:World) (H:PH) (hH:Le H (hp w)) (hU:Dt H) {a0:(Int×(List (Aas×(List (Int×Int)))))×(Int×(List ((Aas×Int×Int×Aas)×(List Int))))×(List (((List Int))×(List Int)×(List Int)))} {a1:Go.L.Qv} {c:Value} {d:Value} {e:Value} {l:Value} {m:Value} {o:Value} (ab:AI (.pair .st (.vec (.pair (.int .i64) (.int .i64)))) H c (a0.1.2)) (ac:AI (.pair (.pair .st (.pair (.int .i64) (.pair (.int .i64) .st))) (.vec (.int .i64))) H d (a0.2.1.2)) (ad:AI (.pair (.vec (.int .i64)) (.pair (.vec (.int .i64)) (.vec (.int .i64)))) H e (a0.2.2)) (a3:AI .st H l (a1.f.2.1)) (a4:AI .byte H m (a1.f.2.2.2.1)) (ae:AI .AV H o (a1.f.2.2.2.2.2.2)) {r:(List Bool)} (h:self a0 a1=some r),Ok Tryz.prog 51 [.agg #[No a0.1.1,c,No a0.2.1.1,d,e],.agg #[No a1.f.1,l,Aar a1.f.2.2.1,m,No a1.f.2.2.2.2.1,No a1.f.2.2.2.2.2.1,o]] w (fun v w'=>Ext w w'∧∃ u0,v=u0∧Co 4 .bool H w w' u0 (r)))(w:World)(H:PH)(hH:Le H (hp w))(hU:Dt H){a0:(Int×(List (Aas×(List (Int×Int)))))×(Int×(List ((Aas×Int×Int×Aas)×(List Int))))×(List (((List Int))×(List Int)×(List Int)))}{a1:Go.L.Qv}{c:Value}{d:Value}{e:Value}{l:Value}{m:Value}{o:Value}(ab:AI (.pair .st (.vec (.pair (.int .i64) (.int .i64)))) H c (a0.1.2))(ac:AI (.pair (.pair .st (.pair (.int .i64) (.pair (.int .i64) .st))) (.vec (.int .i64))) H d (a0.2.1.2))(ad:AI (.pair (.vec (.int .i64)) (.pair (.vec (.int .i64)) (.vec (.int .i64)))) H e (a0.2.2))(a3:AI .st H l (a1.f.2.1))(a4:AI .byte H m (a1.f.2.2.2.1))(ae:AI .AV H o (a1.f.2.2.2.2.2.2)){r:(List Bool)}(h:CK self a0 a1=some r):
  Ok Tryz.prog 51 [.agg #[No a0.1.1,c,No a0.2.1.1,d,e],.agg #[No a1.f.1,l,Aar a1.f.2.2.1,m,No a1.f.2.2.2.2.1,No a1.f.2.2.2.2.2.1,o]] w (fun v w'=>Ext w w'∧∃ u0,v=u0∧Co 4 .bool H w w' u0 (r)):=by
 refine A5 (n:=88) [(0,.agg #[No a0.1.1,c,No a0.2.1.1,d,e]),(1,.agg #[No a1.f.1,l,Aar a1.f.2.2.1,m,No a1.f.2.2.2.2.1,No a1.f.2.2.2.2.2.1,o])] func51 rfl rfl rfl rfl rfl ?_;have hL:=AR.start w;refine Al<|Cv (t:=52) rfl rfl rfl hL fun w1 b1 ca co _=>Cv (t:=26) rfl rfl rfl ca fun w2 b2 a6 cp _=>AB 1 rfl<|A8<|Al<|Af (Ag rfl AaY rfl BG (by decide)) rfl<|Af (Ah 0 rfl Aau rfl a6 rfl rfl) rfl ?_;obtain⟨x3,cb,h⟩:=Go.L.bind_some h;refine Ax rfl rfl a6 (JP _ _ (As hH a6) cb) ?_;rintro _ w4 rfl cz y cq;refine Ad<|By rfl (fun a7=>?_) (fun a7=>?_)
 ·have h:=Bv a7 h;refine EI (.q 0 (.q 1 (.q 2 (.h 3 (.h 4 (.q 5 (.tail 6))))))) mixed (by kernel_rfl) (fun w7 cc=>?_);have av:=y.call cc
  iterate 2 refine BE (AE 1 rfl Ab9 rfl MJ av rfl) rfl rfl ?_
  refine BE (AE 0 rfl AaY rfl Bc av rfl) rfl rfl ?_;obtain⟨x9,cd,h⟩:=Go.L.bind_some h;refine BT rfl rfl rfl (fun ce ak=>M6 _ _ (As hH (av.call ak)) (hU.mono (Ai hH)) (ab.mono (Ai hH)) (ac.mono (Ai hH)) (ad.mono (Ai hH)) (a3.mono (Ai hH)) (a4.mono (Ai hH)) (ae.mono (Ai hH)) cd) ?_;rintro ce ci c0 ak a8 ⟨_,rfl,a9⟩;have ba:=av.call ak;have al:=ba.call a8;have bb:=a9.Ct hH ba a8;obtain⟨c1,bw,h⟩:=Go.L.bind_some h;refine BT rfl rfl rfl (fun cf af=>MR _ _ (As hH (al.call af)) (ab.mono (Ai hH)) (ac.mono (Ai hH)) (ad.mono (Ai hH)) (bb.mono (Ab hH (AX al af))) bw) ?_;rintro cf cj c2 af am ⟨_,rfl,bc⟩;have an:=al.call af;have ao:=an.call am;have bp:=AX an am;obtain⟨cr,ao,bp,ap⟩:=bc.take hH an am;refine Ds 1 rfl<|BW (fun c3 bd=>?_);have be:=ao.call bd;have bq:=AX ao bd;refine Ad<|Az<|Au ?_;obtain rfl:=Option.some.inj h;refine An rfl rfl ?_;have ap:=ap.mono (Ab hH bq);exact⟨be.ext,_,rfl,(be.Gp hH (i:=0) rfl ap)⟩
 have h:=Bw a7 h;refine Av<|Ao<|Al<|Af (AE 1 rfl Ab9 rfl MJ y rfl) rfl<|AB 2 rfl<|Bl 1 rfl<|Af (Ag rfl AaY rfl DS (by decide)) rfl<|Af (Ah 0 rfl Abx rfl y rfl rfl) rfl ?_;obtain⟨bf,h⟩:=Ac h;refine Be rfl rfl Abx Bc ae ((0:Int).toNat) (Int.toNat_of_nonneg bf.1).symm (AZ bf) rfl ?_;rintro c4 _ e20t0 bx;obtain⟨_,_,rfl,rfl,⟨_,_,rfl,⟨e20v1,rfl,e20h1⟩,⟨_,_,rfl,rfl,⟨_,_,rfl,⟨e20v3,rfl,e20h3⟩,⟨_,_,rfl,rfl,⟨_,_,rfl,rfl,⟨e20v6,rfl,e20h6⟩⟩⟩⟩⟩⟩⟩:=Go.E.Rp.Cn e20t0;refine Af (Cd rfl AaY rfl Bc bx (hH.trans y.arg)) rfl ?_;obtain⟨aw,bz,h⟩:=Go.L.bind_some h;refine Xt [.agg #[No a0.1.1,c,No a0.2.1.1,d,e]] [] rfl rfl rfl y (hself _ _ (As hH y) (hU.mono (Ai hH)) (ab.mono (Ai hH)) (ac.mono (Ai hH)) (ad.mono (Ai hH)) (e20h1.mono (Ai hH)) (e20h3.mono (Ai hH)) (e20h6.mono (Ai hH)) bz) ?_;rintro g c5 ⟨_,rfl,bg⟩ b0 aa br;obtain⟨bh,aa,br,bi⟩:=bg.take hH y b0;refine AB 1 rfl ?_
 refine Bm (σ:=(List Bool)×(List Value)) (fun⟨p,k⟩=>[(3,(Aam b2)),(6,g)]) (fun⟨p,k⟩ wr=>DM w [.row (g) 4 1 (p).length (k),.box b2 [No a1.f.1,l,Aar a1.f.2.2.1,m,No a1.f.2.2.2.2.1,No a1.f.2.2.2.2.2.1,o] 26,.box b1 [No a0.1.1,c,No a0.2.1.1,d,e] 52] wr fun Oz=>AM .bool (gz H w wr Oz) (p) (k)∧(Cr a1) p=some r) ?_ ?_
 ·refine Al<|Af (Ag rfl AaY rfl BG (by decide)) rfl<|Af (Ah 1 rfl Aau rfl aa rfl rfl) rfl<|AB 1 rfl<|Bg rfl (fun aq=>?_) (fun aq=>?_)
  ·have h:=A1 aq h;refine Bl 1 rfl<|Af (Po (i:=0) rfl AbB aa rfl) rfl<|AB 1 rfl<|A4 ?_;obtain⟨bj,h⟩:=Bb h;refine Bu (σ:=(List Bool)×Int×(List Value)×Nat) (fun⟨u,a,s,n⟩=>[(3,(Aam b2)),(6,g),(32,No (aw.length:Int)),(33,No a)]) (fun⟨u,a,s,n⟩ wr=>DM w [.row (g) 4 1 (u).length (s),.box b2 [No a1.f.1,l,Aar a1.f.2.2.1,m,No a1.f.2.2.2.2.1,No a1.f.2.2.2.2.2.1,o] 26,.box b1 [No a0.1.1,c,No a0.2.1.1,d,e] 52] wr fun Oz=>AM .bool (gz H w wr Oz) (u) (s)∧FM (CS a1 aw) n (u,a)=some r) (fun⟨u,a,s,n⟩=>n) (aw,(0:Int),bh,bj) (.cons rfl (.cons rfl (.cons rfl (.cons rfl (Sub.nil _))))) ⟨aa,bi,h⟩ ?_;rintro⟨u,a,s,nn67⟩ cs ⟨ag,ah,h⟩;obtain⟨bj,c6,rfl,h,bk⟩:=Ba h;refine AD 1 rfl<|A8<|Bg rfl (fun ar=>?_) (fun ar=>?_)
   ·have h:=A1 ar h;refine Av<|Ao<|A8<|A4<|AD 2 rfl<|Aq<|Ar 4 rfl ?_;obtain⟨bl,h⟩:=Ac h;refine Be rfl rfl AbB YC (ag.S8 hH (i:=0) rfl ah) a.toNat (Int.toNat_of_nonneg bl.1).symm (AZ bl) rfl ?_;rintro c7 _ rfl b3;refine Af (Bh rfl AbC rfl b3 (Le.refl _)) rfl<|Ar 1 rfl ?_;obtain⟨au,h⟩:=Ac h;refine KH 0 rfl rfl AbB YC ag rfl a.toNat (Int.toNat_of_nonneg au.1).symm (AZ au) rfl fun c8 b4=>KI (z:=!(u.getD a.toNat default)) (j:=a.toNat) 0 rfl rfl rfl YC hH ag rfl ah b4 rfl (AZ au) rfl fun c9 b5 b6 ck b7=>AL<|AA<|Ao<|Aq ?_;obtain⟨b8,h⟩:=Ac h;refine Af (AK rfl rfl rfl b8) rfl<|Ar 1 rfl<|AL ?_;have h:=BF.again h bk;refine AO ((u.set a.toNat (!(u.getD a.toNat default))),(a+(1:Int)),b5,bj) (.cons rfl (.cons rfl (.cons rfl (.cons rfl (Sub.nil _))))) ⟨b6,b7,h⟩ (Nat.lt_succ_self _)
   have h:=A2 ar h;refine Bq<|AH<|A6 ?_;have h:=BF.out h bk;refine Bf<|A9 (u,s) (.cons rfl (.cons rfl (Sub.nil _))) ⟨ag,ah,h⟩
  have h:=A2 aq h;refine Av<|A9 (aw,bh) (.cons rfl (.cons rfl (Sub.nil _))) ⟨aa,bi,h⟩
 rintro⟨p,k⟩ ct ⟨bm,x,h⟩;refine Bm (σ:=Unit) (fun(_:Unit)=>[(6,g)]) (fun(_:Unit) wr=>DM w [.row (g) 4 1 (p).length (k),.box b2 [No a1.f.1,l,Aar a1.f.2.2.1,m,No a1.f.2.2.2.2.1,No a1.f.2.2.2.2.2.1,o] 26,.box b1 [No a0.1.1,c,No a0.2.1.1,d,e] 52] wr fun Oz=>AM .bool (gz H w wr Oz) (p) (k)∧(Dc p)=some r) ?_ ?_
 ·refine Al<|Af (Ag rfl AaY rfl DS (by decide)) rfl<|Af (Ah 1 rfl Abx rfl bm rfl rfl) rfl ?_;obtain⟨bs,h⟩:=Ac h;refine TD rfl rfl Abx Bc ae bs rfl fun b9 ax=>Af (Bn rfl Abx ax) rfl<|AB 1 rfl<|A4 ?_;obtain⟨bn,h⟩:=Bb h;refine Bu (σ:=Int×Nat) (fun⟨b,n⟩=>[(6,g),(47,b9),(48,No ((a1.f.2.2.2.2.2.2.drop (1:Int).toNat).length:Int)),(49,No b)]) (fun⟨b,n⟩ wr=>DM w [.row (g) 4 1 (p).length (k),.box b2 [No a1.f.1,l,Aar a1.f.2.2.1,m,No a1.f.2.2.2.2.1,No a1.f.2.2.2.2.2.1,o] 26,.box b1 [No a0.1.1,c,No a0.2.1.1,d,e] 52] wr fun Oz=>AM .bool (gz H w wr Oz) (p) (k)∧FM (CR a1 p) n b=some r) (fun⟨b,n⟩=>n) ((0:Int),bn) (.cons rfl (.cons rfl (.cons rfl (.cons rfl (Sub.nil _))))) ⟨bm,x,h⟩ ?_;rintro⟨b,nn113⟩ cl ⟨ai,x,h⟩;obtain⟨bn,cu,rfl,h,bt⟩:=Ba h;refine AD 1 rfl<|A8<|Bg rfl (fun aj=>?_) (fun aj=>?_)
  ·have h:=A1 aj h;refine Av<|Ao<|A8<|A4<|Al ?_;obtain⟨ay,h⟩:=Ac h;refine Be rfl rfl Abx Bc ax b.toNat (Int.toNat_of_nonneg ay.1).symm (AZ ay) rfl ?_;rintro cv _ e117t0 bu;obtain⟨_,_,rfl,rfl,⟨_,_,rfl,⟨e117v1,rfl,e117h1⟩,⟨_,_,rfl,rfl,⟨_,_,rfl,⟨e117v3,rfl,e117h3⟩,⟨_,_,rfl,rfl,⟨_,_,rfl,rfl,⟨e117v6,rfl,e117h6⟩⟩⟩⟩⟩⟩⟩:=Go.E.Rp.Cn e117t0;refine Af (Cd rfl AaY rfl Bc bu (hH.trans ai.arg)) rfl<|AJ Bc rfl rfl ai fun cw cx bv cg _=>Ak 0 rfl rfl rfl Bc bv rfl rfl (AF rfl (AF e117h1.one (AF rfl (AF e117h3.one (AF rfl (AF rfl (AF e117h6.one BM))))))) fun cy cm ch=>Ad ?_
   cases h
  have h:=A2 aj h;refine Bq<|AH<|A6 ?_;have h:=BF.out h bt;refine Bf<|A9 () (.cons rfl (Sub.nil _)) ⟨ai,x,h⟩
 rintro _ cn ⟨az,x,h⟩;refine AD 2 rfl<|Az ?_;obtain rfl:=Option.some.inj h;refine An rfl rfl ?_;exact⟨az.ext,_,rfl,(az.Gp hH (i:=0) rfl x)⟩
theorem Ln(n:Nat):∀ (w:World) (H:PH) (hH:Le H (hp w)) (hU:Dt H) {a0:(Int×(List (Aas×(List (Int×Int)))))×(Int×(List ((Aas×Int×Int×Aas)×(List Int))))×(List (((List Int))×(List Int)×(List Int)))} {a1:Go.L.Qv} {a:Value} {b:Value} {c:Value} {d:Value} {e:Value} {g:Value} (j:AI (.pair .st (.vec (.pair (.int .i64) (.int .i64)))) H a (a0.1.2)) (k:AI (.pair (.pair .st (.pair (.int .i64) (.pair (.int .i64) .st))) (.vec (.int .i64))) H b (a0.2.1.2)) (l:AI (.pair (.vec (.int .i64)) (.pair (.vec (.int .i64)) (.vec (.int .i64)))) H c (a0.2.2)) (m:AI .st H d (a1.f.2.1)) (o:AI .byte H e (a1.f.2.2.2.1)) (p:AI .AV H g (a1.f.2.2.2.2.2.2)) {r:(List Bool)} (h:CI n a0 a1=some r),Ok Tryz.prog 51 [.agg #[No a0.1.1,a,No a0.2.1.1,b,c],.agg #[No a1.f.1,d,Aar a1.f.2.2.1,e,No a1.f.2.2.2.2.1,No a1.f.2.2.2.2.2.1,g]] w (fun v w'=>Ext w w'∧∃ i,v=i∧Co 4 .bool H w w' i (r)):=by
 induction n with
 | zero=>intros;rename_i h;cases h
 | succ n ih=>exact @Ku (CI n) ih
theorem Me(w:World)(H:PH)(hH:Le H (hp w))(hU:Dt H){a0:(Int×(List (Aas×(List (Int×Int)))))×(Int×(List ((Aas×Int×Int×Aas)×(List Int))))×(List (((List Int))×(List Int)×(List Int)))}{a1:Go.L.Qv}{a:Value}{b:Value}{c:Value}{d:Value}{e:Value}{g:Value}(i:AI (.pair .st (.vec (.pair (.int .i64) (.int .i64)))) H a (a0.1.2))(j:AI (.pair (.pair .st (.pair (.int .i64) (.pair (.int .i64) .st))) (.vec (.int .i64))) H b (a0.2.1.2))(k:AI (.pair (.vec (.int .i64)) (.pair (.vec (.int .i64)) (.vec (.int .i64)))) H c (a0.2.2))(l:AI .st H d (a1.f.2.1))(m:AI .byte H e (a1.f.2.2.2.1))(n:AI .AV H g (a1.f.2.2.2.2.2.2)){r:(List Bool)}(h:Gg a0 a1=some r):Ok Tryz.prog 51 [.agg #[No a0.1.1,a,No a0.2.1.1,b,c],.agg #[No a1.f.1,d,Aar a1.f.2.2.1,e,No a1.f.2.2.2.2.1,No a1.f.2.2.2.2.2.1,g]] w (fun v w'=>Ext w w'∧∃ o,v=o∧Co 4 .bool H w w' o (r)):=Ln 1000 w H hH hU i j k l m n h
def FK(a:List Int):Option ((List Int)×(Int×Int)):=
 some (a,((0:Int),(0:Int)))
def Fl(a2:List Bool)(c:(List Bool)):(List Int)×Int→Option (((List Int)×Int) ⊕ ((List Int)×(Int×Int))):=fun⟨b,a⟩=>
 if a<(c.length:Int) then AY (0≤a∧a<(c.length:Int)) (if c.getD a.toNat default then AY (0≤a∧a<(a2.length:Int)) (if a2.getD a.toNat default then AY (Go.E.JE 8 (b.length+([a]).length)) (AY (BJ (a+(1:Int))) (some (Sum.inl ((b++[a]),(a+(1:Int)))))) else AY (BJ (a+(1:Int))) (some (Sum.inl (b,(a+(1:Int)))))) else AY (BJ (a+(1:Int))) (some (Sum.inl (b,(a+(1:Int)))))) else Option.map Sum.inr (FK b)
def H6(a2:List Bool)(a:(List Bool))(s:(List Int)×Int):Option ((List Int)×(Int×Int)):=Go.L.run (Fl a2 a) s
def FA(a0:(Int×(List (Aas×(List (Int×Int)))))×(Int×(List ((Aas×Int×Int×Aas)×(List Int))))×(List (((List Int))×(List Int)×(List Int))))(a1:Go.L.Qv)(a2:List Bool):Option ((List Int)×(Int×Int)):=
 Option.bind (DL a1) (fun a=>if a.1=(0:Int)∧a.2=(0:Int) then Option.bind (C6 ((a0.1.1,a0.1.2),(a0.2.1.1,a0.2.1.2),a0.2.2)) (fun b=>if(a2.length:Int)=b then Option.bind (Gg ((a0.1.1,a0.1.2),(a0.2.1.1,a0.2.1.2),a0.2.2) a1) (fun c=>(H6 a2 c) (([]:List Int),(0:Int))) else none) else none)
theorem JI(w:World)(H:PH)(hH:Le H (hp w))(hU:Dt H){a0:(Int×(List (Aas×(List (Int×Int)))))×(Int×(List ((Aas×Int×Int×Aas)×(List Int))))×(List (((List Int))×(List Int)×(List Int)))}{a1:Go.L.Qv}{a2:List Bool}{p:Value}{q:Value}{u:Value}{x:Value}{y:Value}{z:Value}{ab:Value}(aq:AI (.pair .st (.vec (.pair (.int .i64) (.int .i64)))) H p (a0.1.2))(ar:AI (.pair (.pair .st (.pair (.int .i64) (.pair (.int .i64) .st))) (.vec (.int .i64))) H q (a0.2.1.2))(au:AI (.pair (.vec (.int .i64)) (.pair (.vec (.int .i64)) (.vec (.int .i64)))) H u (a0.2.2))(av:AI .st H x (a1.f.2.1))(aw:AI .byte H y (a1.f.2.2.2.1))(ax:AI .AV H z (a1.f.2.2.2.2.2.2))(ay:AI .bool H ab (a2)){r:(List Int)×(Int×Int)}(h:FA a0 a1 a2=some r):
  Ok Tryz.prog 24 [.agg #[No a0.1.1,p,No a0.2.1.1,q,u],.agg #[No a1.f.1,x,Aar a1.f.2.2.1,y,No a1.f.2.2.2.2.1,No a1.f.2.2.2.2.2.1,z],ab] w (fun v w'=>Ext w w'∧∃ u0,v=.tuple #[u0,.agg #[No r.2.1,No r.2.2]]∧Co 3 (.int .i64) H w w' u0 (r.1)):=by
 refine A5 (n:=47) [(0,.agg #[No a0.1.1,p,No a0.2.1.1,q,u]),(1,.agg #[No a1.f.1,x,Aar a1.f.2.2.1,y,No a1.f.2.2.2.2.1,No a1.f.2.2.2.2.2.1,z]),(2,ab)] func24 rfl rfl rfl rfl rfl ?_;have hL:=AR.start w;refine Al<|Cv (t:=52) rfl rfl rfl hL fun w1 b1 bx cc _=>Cv (t:=26) rfl rfl rfl bx fun w2 b2 b0 cd _=>Ar 1 rfl<|AJ AT rfl rfl b0 fun w3 b3 az ce _=>Ad<|A8<|Al<|Af (AE 1 rfl AaY rfl Bc az rfl) rfl ?_;obtain⟨x4,b4,h⟩:=Go.L.bind_some h;refine Ax rfl rfl az (Jf (a0:=a1) _ _ (As hH az) (hU.mono (Ai hH)) (av.mono (Ai hH)) (aw.mono (Ai hH)) (ax.mono (Ai hH)) b4) ?_;rintro _ w5 rfl cp b5 cf;refine AJ AT rfl rfl b5 fun w6 b6 b8 cg _=>Ak 0 rfl rfl rfl AT b8 rfl rfl (AF rfl (AF rfl BM)) fun w7 ao ch=>Ad<|Al<|Af (AE 0 rfl AaR rfl AT ao rfl) rfl<|Af (AW rfl (fun _=>BL _)) rfl<|Af (Kv rfl rfl IC (LA _ _ _ _)) rfl<|Ad<|C9 rfl (fun a3=>?_) (fun a3=>?_)
 ·have h:=A2 a3 h
  cases h
 have h:=A1 a3 h;refine Av<|Ao<|A8<|Bl 1 rfl<|Af (Bn rfl AbB ay) rfl<|Af (AE 3 rfl Ab9 rfl MJ ao rfl) rfl ?_;obtain⟨cq,bm,h⟩:=Go.L.bind_some h;refine Ax rfl rfl ao (EH (a0:=((a0.1.1,a0.1.2),(a0.2.1.1,a0.2.1.2),a0.2.2)) _ _ (As hH ao) (aq.mono (Ai hH)) (ar.mono (Ai hH)) (au.mono (Ai hH)) bm) ?_;rintro _ cr rfl ci bn b9;refine AB 1 rfl<|C9 rfl (fun ak=>?_) (fun ak=>?_)
 ·have h:=A2 ak h
  cases h
 have h:=A1 ak h;refine Av<|Ao<|Bl 1 rfl ?_;obtain⟨aa,ca,al⟩:=Ck (.int .i64) H 3 bn;refine Ad<|Bm (σ:=(List Int)×Value×(List Value)) (fun⟨ag,ac,o⟩=>[(7,(Aam b3)),(9,ac)]) (fun⟨ag,ac,o⟩ wr=>DM w [.row (ac) 3 1 (ag).length (o),.box b6 [No x4.1,No x4.2] 28,.box b3 [No (0:Int),No (0:Int)] 28,.box b2 [No a1.f.1,x,Aar a1.f.2.2.1,y,No a1.f.2.2.2.2.1,No a1.f.2.2.2.2.2.1,z] 26,.box b1 [No a0.1.1,p,No a0.2.1.1,q,u] 52] wr fun Oz=>AM (.int .i64) (gz H w wr Oz) (ag) (o)∧FK ag=some r) ?_ ?_
 ·refine Al<|Af (AE 4 rfl Ab9 rfl MJ aa rfl) rfl<|Af (AE 3 rfl AaY rfl Bc aa rfl) rfl ?_;obtain⟨a4,bo,h⟩:=Go.L.bind_some h;refine Ax rfl rfl aa (Me (a0:=((a0.1.1,a0.1.2),(a0.2.1.1,a0.2.1.2),a0.2.2)) (a1:=a1) _ _ (As hH aa) (hU.mono (Ai hH)) (aq.mono (Ai hH)) (ar.mono (Ai hH)) (au.mono (Ai hH)) (av.mono (Ai hH)) (aw.mono (Ai hH)) (ax.mono (Ai hH)) bo) ?_;rintro ap cs ⟨_,rfl,a5⟩ bp bq bc;have ah:=a5.Ct hH aa bp;refine Af (Bn rfl AbB ah) rfl<|AB 1 rfl<|A4 ?_;obtain⟨ai,h⟩:=Bb h;have al:=al.mono (Ab hH bc)
  refine Bu (σ:=(List Int)×Int×Value×(List Value)×Nat) (fun⟨e,a,g,b,n⟩=>[(2,ab),(7,(Aam b3)),(9,g),(26,ap),(27,No (a4.length:Int)),(28,No a)]) (fun⟨e,a,g,b,n⟩ wr=>DM w [.row (g) 3 1 (e).length (b),.box b6 [No x4.1,No x4.2] 28,.box b3 [No (0:Int),No (0:Int)] 28,.box b2 [No a1.f.1,x,Aar a1.f.2.2.1,y,No a1.f.2.2.2.2.1,No a1.f.2.2.2.2.2.1,z] 26,.box b1 [No a0.1.1,p,No a0.2.1.1,q,u] 52] wr fun Oz=>AI .bool (gz H w wr Oz) (ap) (a4)∧AM (.int .i64) (gz H w wr Oz) (e) (b)∧FM (Fl a2 a4) n (e,a)=some r) (fun⟨e,a,g,b,n⟩=>n) (([]:List Int),(0:Int),Aak,[],ai) (.cons rfl (.cons rfl (.cons rfl (.cons rfl (.cons rfl (.cons rfl (Sub.nil _))))))) ⟨bq,ah,al,h⟩ ?_;rintro⟨e,a,g,b,nn89⟩ cj ⟨k,d,j,h⟩;obtain⟨ai,ct,rfl,h,ad⟩:=Ba h;refine AD 1 rfl<|A8<|Bg rfl (fun am=>?_) (fun am=>?_)
  ·have h:=A1 am h;refine Av<|Ao<|A8<|A4<|Bl 1 rfl ?_;obtain⟨a6,h⟩:=Ac h;refine Be rfl rfl AbB YC d a.toNat (Int.toNat_of_nonneg a6.1).symm (AZ a6) rfl ?_;rintro cu _ rfl br;refine Af (Bh rfl AbC rfl br (As hH k)) rfl<|AB 2 rfl<|Bl 2 rfl<|AQ (s:=34) rfl (fun c=>?_) (fun c=>?_)
   ·have h:=Bv c h;refine Aa rfl rfl c<|Af (Ae rfl) rfl<|Aa rfl rfl c<|Af (Ae rfl) rfl<|Aa rfl rfl c ?_;obtain⟨a7,h⟩:=Ac h;refine Be rfl rfl AbB YC ay a.toNat (Int.toNat_of_nonneg a7.1).symm (AZ a7) rfl ?_;rintro cv _ rfl bs;refine Aa rfl rfl c<|Af (Bh rfl AbC rfl bs (hH.trans k.arg)) rfl<|Af (A3 rfl c rfl) rfl<|Ad<|By rfl (fun an=>?_) (fun an=>?_)
    ·have h:=Bv an h;refine Aq<|Ar 2 rfl<|Br (r:=(.int .i64)) (l:=[a]) rfl (fun _=>Ig _ _) rfl (show 1≤9223372036854775807 by decide) hH k (.c1 rfl .nil) ?_;intro ck cl cb bd aj be;obtain⟨bf,h⟩:=Ac h;have j:=j.mono (Ab hH aj);refine Bo (r:=(.int .i64)) (l:=e) (m:=[a]) 0 rfl rfl Aat BG rfl (by decide) rfl hH bd rfl j be bf fun bt cm bg bh a8 bi=>Ar 1 rfl<|AL<|AA<|Ao<|Aq ?_;obtain⟨bj,h⟩:=Ac h;refine Af (AK rfl rfl rfl bj) rfl<|Ar 1 rfl<|AL ?_;have h:=BF.again h ad;have d:=d.mono (Ab hH (aj.trans a8));refine AO ((e++[a]),(a+(1:Int)),bt,bg,ai) (.cons rfl (.cons rfl (.cons rfl (.cons rfl (.cons rfl (.cons rfl (Sub.nil _))))))) ⟨bh,d,bi,h⟩ (Nat.lt_succ_self _)
    have h:=Bw an h;refine Av<|AA<|Ao<|Aq ?_;obtain⟨bk,h⟩:=Ac h;refine Af (AK rfl rfl rfl bk) rfl<|Ar 1 rfl<|AL ?_;have h:=BF.again h ad;refine AO (e,(a+(1:Int)),g,b,ai) (.cons rfl (.cons rfl (.cons rfl (.cons rfl (.cons rfl (.cons rfl (Sub.nil _))))))) ⟨k,d,j,h⟩ (Nat.lt_succ_self _)
   have h:=Bw c h
   iterate 4 refine Aj rfl rfl c rfl ?_
   refine Af (A7 rfl c rfl) rfl<|Ad<|Ch rfl<|Av<|AA<|Ao<|Aq ?_;obtain⟨bl,h⟩:=Ac h;refine Af (AK rfl rfl rfl bl) rfl<|Ar 1 rfl<|AL ?_;have h:=BF.again h ad;refine AO (e,(a+(1:Int)),g,b,ai) (.cons rfl (.cons rfl (.cons rfl (.cons rfl (.cons rfl (.cons rfl (Sub.nil _))))))) ⟨k,d,j,h⟩ (Nat.lt_succ_self _)
  have h:=A2 am h;refine Bq<|AH<|A6 ?_;have h:=BF.out h ad;refine Bf<|A9 (e,g,b) (.cons rfl (.cons rfl (Sub.nil _))) ⟨k,j,h⟩
 rintro⟨ag,ac,o⟩ cn ⟨bu,ae,h⟩;refine Bl 1 rfl<|Af (AW rfl (fun _=>BL _)) rfl<|Ar 1 rfl<|Ak 2 rfl rfl rfl AT bu rfl rfl (AF rfl (AF rfl BM)) fun co af a9=>Ad<|Az ?_;obtain rfl:=Option.some.inj h;refine Cm rfl (.tmp rfl) (.cell rfl AaR rfl AT (AS (i:=2) af rfl)) ?_;have ae:=ae.mono (Ab hH a9);exact⟨af.ext,_,rfl,(af.Gp hH (i:=0) rfl ae)⟩
def FL(a0:Aas):Option (Aas):=
 some (a0)
theorem LK(w:World)(H:PH)(hH:Le H (hp w)){a0:Aas}{a:Value}(b:AI .byte H a (a0)){r:Aas}(h:FL a0=some r):
  Ok Tryz.prog 61 [a] w (fun v w'=>Ext w w'∧∃ c,v=c∧AI .byte (un H (nw w w')) c (r)):=by
 refine A5 (n:=9) [(0,a)] func61 rfl rfl rfl rfl rfl ?_;have hL:=AR.start w;refine AD 1 rfl<|Bl 2 rfl<|Af (Bn rfl AaQ b) rfl<|Ar 1 rfl<|Af (Bn rfl AaQ b) rfl<|Aag rfl rfl rfl AaQ Lj b rfl fun e d=>AB 1 rfl<|Az ?_;obtain rfl:=Option.some.inj h;refine An rfl rfl ?_;exact⟨hL.ext,_,rfl,(d.mono (GP hH))⟩
def Fm(a0:(Int×(List (Aas×(List (Int×Int)))))×(Int×(List ((Aas×Int×Int×Aas)×(List Int))))×(List (((List Int))×(List Int)×(List Int))))(a1:Int)(a2:Int)(a3:Int):Option (Aas×(Int×Int)):=
 AY (0≤a1∧a1<(a0.2.2.length:Int)) (Option.bind (C4 ((a0.2.2.getD a1.toNat default).1,(a0.2.2.getD a1.toNat default).2.1,(a0.2.2.getD a1.toNat default).2.2)) (fun a=>if(a2<(0:Int))∨(a<a2) then none else(if(a3<a2)∨(a<a3) then none else AY (0≤a1∧a1<(a0.2.2.length:Int)) (Option.bind (FG ((a0.2.2.getD a1.toNat default).1,(a0.2.2.getD a1.toNat default).2.1,(a0.2.2.getD a1.toNat default).2.2) a2 a3) (fun b=>Option.bind (FL b.1) (fun c=>some (c,((0:Int),(0:Int)))))))))
def EO(a0:(Int×(List (Aas×(List (Int×Int)))))×(Int×(List ((Aas×Int×Int×Aas)×(List Int))))×(List (((List Int))×(List Int)×(List Int))))(a1:Int)(a2:Int)(a3:Int)(a4:List Bool):Option (Aas×(Int×Int)):=
 if a1<(0:Int) then none else Option.bind (C6 ((a0.1.1,a0.1.2),(a0.2.1.1,a0.2.1.2),a0.2.2)) (fun b=>if b≤a1 then none else Option.bind (C6 ((a0.1.1,a0.1.2),(a0.2.1.1,a0.2.1.2),a0.2.2)) (fun c=>if(a4.length:Int)=c then AY (0≤a1∧a1<(a4.length:Int)) (if !(a4.getD a1.toNat default) then Option.bind (D4 (20:Int) (-1:Int)) (fun a=>some ([],(a.1,a.2))) else(Fm a0 a1 a2 a3)) else none))
theorem JD(w:World)(H:PH)(hH:Le H (hp w)){a0:(Int×(List (Aas×(List (Int×Int)))))×(Int×(List ((Aas×Int×Int×Aas)×(List Int))))×(List (((List Int))×(List Int)×(List Int)))}{a1:Int}{a2:Int}{a3:Int}{a4:List Bool}{e:Value}{f:Value}{g:Value}{m:Value}(aa:AI (.pair .st (.vec (.pair (.int .i64) (.int .i64)))) H e (a0.1.2))(ab:AI (.pair (.pair .st (.pair (.int .i64) (.pair (.int .i64) .st))) (.vec (.int .i64))) H f (a0.2.1.2))(j:AI (.pair (.vec (.int .i64)) (.pair (.vec (.int .i64)) (.vec (.int .i64)))) H g (a0.2.2))(ac:AI .bool H m (a4)){r:Aas×(Int×Int)}(h:EO a0 a1 a2 a3 a4=some r):
  Ok Tryz.prog 29 [.agg #[No a0.1.1,e,No a0.2.1.1,f,g],No a1,No a2,No a3,m] w (fun v w'=>Ext w w'∧∃ u0,v=.tuple #[u0,.agg #[No r.2.1,No r.2.2]]∧AI .byte (un H (nw w w')) u0 (r.1)):=by
 refine A5 (n:=78) [(0,.agg #[No a0.1.1,e,No a0.2.1.1,f,g]),(1,No a1),(2,No a2),(3,No a3),(4,m)] func29 rfl rfl rfl rfl rfl ?_;have hL:=AR.start w;refine Al<|Cv (t:=52) rfl rfl rfl hL fun w1 b1 bc bn _=>Ar 1 rfl<|AJ AT rfl rfl bc fun w2 b2 ad bo _=>Ad<|Bm (σ:=Unit) (fun(_:Unit)=>[(1,No a1),(2,No a2),(3,No a3),(5,(Aam b1)),(11,(Aam b2))]) (fun(_:Unit) wr=>AR w [.box b2 [No (0:Int),No (0:Int)] 28,.box b1 [No a0.1.1,e,No a0.2.1.1,f,g] 52] wr∧(Fm a0 a1 a2 a3)=some r) ?_ ?_
 ·refine A4<|Bl 3 rfl<|AQ (s:=18) rfl (fun a=>?_) (fun a=>?_)
  ·have h:=A1 (of_decide_eq_true a) h
   iterate 4 refine Aj rfl rfl a rfl ?_
   refine Af (A3 rfl a rfl) rfl<|AB 1 rfl<|Ce rfl ?_
   cases h
  have h:=A2 (of_decide_eq_false a) h;refine Aa rfl rfl a<|Af (Ae rfl) rfl<|Aa rfl rfl a<|Af (AE 1 rfl Ab9 rfl MJ ad rfl) rfl<|Aa rfl rfl a ?_;obtain⟨bu,ao,h⟩:=Go.L.bind_some h;refine Ax rfl rfl ad (EH (a0:=((a0.1.1,a0.1.2),(a0.2.1.1,a0.2.1.2),a0.2.2)) _ _ (As hH ad) (aa.mono (Ai hH)) (ab.mono (Ai hH)) (j.mono (Ai hH)) ao) ?_;rintro _ bv rfl bp o be;refine Aa rfl rfl a<|Af (Ae rfl) rfl<|Af (A7 rfl a rfl) rfl<|AB 1 rfl<|Bg rfl (fun p=>?_) (fun p=>?_)
  ·have h:=A1 p h
   cases h
  have h:=A2 p h;refine Bl 1 rfl<|Af (Bn rfl AbB ac) rfl<|Af (AE 1 rfl Ab9 rfl MJ o rfl) rfl ?_;obtain⟨bw,ap,h⟩:=Go.L.bind_some h;refine Ax rfl rfl o (EH (a0:=((a0.1.1,a0.1.2),(a0.2.1.1,a0.2.1.2),a0.2.2)) _ _ (As hH o) (aa.mono (Ai hH)) (ab.mono (Ai hH)) (j.mono (Ai hH)) ap) ?_;rintro _ bx rfl bq k bf;refine AB 2 rfl<|C9 rfl (fun q=>?_) (fun q=>?_)
  ·have h:=A2 q h
   cases h
  have h:=A1 q h;refine Bl 2 rfl ?_;obtain⟨ae,h⟩:=Ac h;refine Be rfl rfl AbB YC ac a1.toNat (Int.toNat_of_nonneg ae.1).symm (AZ ae) rfl ?_;rintro bz _ rfl aq;refine Af (Bh rfl AbC rfl aq (hH.trans k.arg)) rfl<|AB 2 rfl<|By rfl (fun u=>?_) (fun u=>?_)
  ·have h:=Bv u h;refine Al ?_;obtain⟨b0,ar,h⟩:=Go.L.bind_some h;refine Ax rfl rfl k (DJ _ _ (As hH k) ar) ?_;rintro _ b3 rfl br au bg;refine Ar 1 rfl<|Ak 0 rfl rfl rfl AT au rfl rfl (AF rfl (AF rfl BM)) fun b4 af bh=>Ad<|Az<|Ay<|Bs ?_;obtain rfl:=Option.some.inj h;refine Cm rfl (.tmp rfl) (.cell rfl AaR rfl AT (AS (i:=0) af rfl)) ?_;exact⟨af.ext,_,rfl,(AI.nil _ _)⟩
  have h:=Bw u h;refine Av<|AA<|A9 () (.cons rfl (.cons rfl (.cons rfl (.cons rfl (.cons rfl (Sub.nil _)))))) ⟨k,h⟩
 rintro _ bs ⟨l,h⟩;refine Al<|Af (Ag rfl Ab9 rfl Jo (by decide)) rfl<|Af (Ah 1 rfl AbA rfl l rfl rfl) rfl<|Ar 1 rfl ?_;obtain⟨ag,h⟩:=Ac h;refine Be rfl rfl AbA FQ j a1.toNat (Int.toNat_of_nonneg ag.1).symm (AZ ag) rfl ?_;rintro b5 _ ⟨_,_,rfl,⟨e49v0,rfl,e49h0⟩,⟨_,_,rfl,⟨e49v1,rfl,e49h1⟩,⟨e49v2,rfl,e49h2⟩⟩⟩ av;refine Af (Cd rfl Abz rfl FQ av (hH.trans l.arg)) rfl ?_;obtain⟨b6,aw,h⟩:=Go.L.bind_some h;refine Ax rfl rfl l (E4 (a0:=((a0.2.2.getD a1.toNat default).1,(a0.2.2.getD a1.toNat default).2.1,(a0.2.2.getD a1.toNat default).2.2)) _ _ (As hH l) (e49h0.mono (Ai hH)) (e49h1.mono (Ai hH)) (e49h2.mono (Ai hH)) aw) ?_;rintro _ b7 rfl bt b bi;refine AB 1 rfl<|A8<|A4<|Bl 3 rfl<|R6 3 2 rfl rfl rfl rfl rfl rfl<|AB 1 rfl<|Bg rfl (fun x=>?_) (fun x=>?_)
 ·have h:=A1 x h
  cases h
 have h:=A2 x h;refine Bl 4 rfl<|R6 3 3 rfl rfl rfl rfl rfl rfl<|AB 1 rfl<|Bg rfl (fun y=>?_) (fun y=>?_)
 ·have h:=A1 y h
  cases h
 have h:=A2 y h;refine Av<|AA<|Ao<|Al<|Af (Ag rfl Ab9 rfl Jo (by decide)) rfl<|Af (Ah 1 rfl AbA rfl b rfl rfl) rfl<|Ar 1 rfl ?_;obtain⟨ah,h⟩:=Ac h;refine Be rfl rfl AbA FQ j a1.toNat (Int.toNat_of_nonneg ah.1).symm (AZ ah) rfl ?_;rintro b8 _ ⟨_,_,rfl,⟨e59v0,rfl,e59h0⟩,⟨_,_,rfl,⟨e59v1,rfl,e59h1⟩,⟨e59v2,rfl,e59h2⟩⟩⟩ ax;refine Af (Cd rfl Abz rfl FQ ax (hH.trans b.arg)) rfl<|Ar 2 rfl ?_;obtain⟨b9,ay,h⟩:=Go.L.bind_some h;refine Ax rfl rfl b (LH (a0:=((a0.2.2.getD a1.toNat default).1,(a0.2.2.getD a1.toNat default).2.1,(a0.2.2.getD a1.toNat default).2.2)) _ _ (As hH b) (e59h0.mono (Ai hH)) (e59h1.mono (Ai hH)) (e59h2.mono (Ai hH)) ay) ?_;rintro _ ca ⟨bj,rfl,ai⟩ az a5 bk;have c:=ai.Ct hH b az;refine Ar 3 rfl<|AJ AT rfl rfl a5 fun cb cc a6 al _=>Ar 1 rfl<|Ak 0 rfl rfl rfl AT a6 rfl rfl (AF rfl (AF rfl BM)) fun cd z am=>Ad<|Bl 1 rfl ?_;obtain⟨ce,a7,h⟩:=Go.L.bind_some h;have c:=c.mono (Ab hH (al.trans am));refine Ax rfl rfl z (LK _ _ (As hH z) c a7) ?_;rintro bl cf ⟨_,rfl,aj⟩ a8 a9 bm
 have d:=aj.mono (Cj hH z a8);refine Af (AW rfl (fun _=>BL _)) rfl<|Ar 1 rfl<|Ak 1 rfl rfl rfl AT a9 rfl rfl (AF rfl (AF rfl BM)) fun cg ak an=>Ad<|Az ?_;obtain rfl:=Option.some.inj h;refine Cm rfl (.tmp rfl) (.cell rfl AaR rfl AT (AS (i:=1) ak rfl)) ?_;have d:=d.mono (Ab hH an);exact⟨ak.ext,_,rfl,(d.mono (Cu hH))⟩
def Ei(a:Bool):Option (Bool):=
 some (a)
def Jm:Option (Bool):=
 Option.bind (NK ([111,120]:Aas)) (fun c=>Option.bind (EX (Go.L.Qv.mk (10:Int) ([]) ([]:Aas) ([]) (0:Int) (0:Int) ([c]))) (fun o=>Option.bind (JC ([33,111,120]:Aas)) (fun d=>AY ([(111:UInt8),(120:UInt8)]≠[]) (Option.bind (Ke (1:Int)) (fun p=>AY ([(99:UInt8),(111:UInt8),(119:UInt8)]≠[]) (Option.bind (Ke (2:Int)) (fun q=>Option.bind (KB ([([(111:UInt8),(120:UInt8)],p),([(99:UInt8),(111:UInt8),(119:UInt8)],q)])) (fun a=>Option.bind (FA ((a.1.1.1,a.1.1.2),(a.1.2.1.1,a.1.2.1.2),a.1.2.2) (Go.L.Qv.mk (10:Int) ([]) ([]:Aas) ([]) (0:Int) (0:Int) ([c])) ([true,true])) (fun e=>Option.bind (FA ((a.1.1.1,a.1.1.2),(a.1.2.1.1,a.1.2.1.2),a.1.2.2) (Go.L.Qv.mk (10:Int) ([]) ([]:Aas) ([]) (0:Int) (0:Int) ([c])) ([true,false])) (fun f=>Option.bind (EO ((a.1.1.1,a.1.1.2),(a.1.2.1.1,a.1.2.1.2),a.1.2.2) (1:Int) (0:Int) (2:Int) ([false,true])) (fun g=>Option.bind (EO ((a.1.1.1,a.1.1.2),(a.1.2.1.1,a.1.2.1.2),a.1.2.2) (1:Int) (0:Int) (2:Int) ([true,false])) (fun h=>Option.bind (JC ([33,40,97,124,33,98,41]:Aas)) (fun i=>Option.bind (Gk i.1) (fun j=>Option.bind (EX j.1) (fun k=>if o.2.1=(0:Int) then if d.2.1=(0:Int) then if a.2.1=(0:Int) then if e.2.1=(0:Int) then if f.2.1=(0:Int) then if g.2.1=(0:Int) then if i.2.1=(0:Int) then if j.2.1=(0:Int) then if k.2.1=(0:Int) then(if o.1=([33,111,120]:Aas) then Option.bind (CZ d.1 (Go.L.Qv.mk (10:Int) ([]) ([]:Aas) ([]) (0:Int) (0:Int) ([c]))) (fun l=>if l then Option.bind (NJ e.1 ([(1:Int)])) (fun m=>if m then if(f.1.length:Int)=(0:Int) then AY ([(99:UInt8),(111:UInt8)]≠[]) (Option.bind (G6 g.1 ([(99:UInt8),(111:UInt8)])) (fun n=>if n then Option.bind (H9 (20:Int) (-1:Int)) (fun b=>if h.2.1=b.1∧h.2.2=b.2 then Ei (decide (k.1=([33,97,38,98]:Aas))) else Ei false) else Ei false)) else Ei false else Ei false) else Ei false) else Ei false) else none else none else none else none else none else none else none else none else none)))))))))))))))
theorem M7(w:World)(H:PH)(hH:Le H (hp w))(hU:Dt H){r:Bool}(h:Jm=some r):
  Ok Tryz.prog 13 [] w (fun v w'=>Ext w w'∧v=.bool r):=by
 refine A5 (n:=162) [] func13 rfl rfl rfl rfl rfl ?_;have hL:=AR.start w;refine AD 1 rfl<|Al ?_;obtain⟨x1,h0,h⟩:=Go.L.bind_some h;refine Ax rfl rfl hL (SQ _ _ (As hH hL) h0) ?_;rintro _ w2 ⟨iu,iv,iw,rfl,e9,fa,fb⟩ dw h1 ix;have fc:=e9.mono (Cj hH hL dw);have fd:=fa.Ct hH hL dw;have fe:=fb.Ct hH hL dw;refine Br (r:=.AV) (l:=[x1]) rfl (fun _=>Jw _ _ _ _ _ _ _ _) rfl (show 1≤9223372036854775807 by decide) hH h1 (.c7 (Go.E.Rp.DH ⟨_,_,rfl,rfl,⟨_,_,rfl,⟨_,rfl,fc⟩,⟨_,_,rfl,rfl,⟨_,_,rfl,⟨_,rfl,fd⟩,⟨_,_,rfl,rfl,⟨_,_,rfl,rfl,⟨_,rfl,fe⟩⟩⟩⟩⟩⟩⟩) .nil) fun v3 w3 jn h2 iy aw=>Af (AW rfl (fun _=>KC _ _ aw.one _)) rfl<|AJ Bc rfl rfl h2 fun w4 b4 h3 fy _=>Ak 0 rfl rfl rfl Bc h3 rfl rfl (AF rfl (AF rfl (AF rfl (AF rfl (AF rfl (AF rfl (AF aw.one BM))))))) fun w5 dx fz=>Ad<|Al<|Af (AE 0 rfl AaY rfl Bc dx rfl) rfl ?_;obtain⟨x6,h4,h⟩:=Go.L.bind_some h;have aw:=aw.mono (Ab hH (fy.trans fz));refine Ax rfl rfl dx (IW (a0:=(Go.L.Qv.mk (10:Int) ([]) ([]:Aas) ([]) (0:Int) (0:Int) ([x1]))) _ _ (As hH dx) (hU.mono (Ai hH)) (AI.nil _ _) (AI.nil _ _) aw h4) ?_;rintro _ w7 rfl jo h5 f0;refine Ar 3 rfl ?_
 refine AJ AT rfl rfl h5 fun w8 b8 h6 f2 _=>Ar 1 rfl<|Ak 0 rfl rfl rfl AT h6 rfl rfl (AF rfl (AF rfl BM)) fun w9 cy f3=>Ad<|Al ?_;obtain⟨an,f4,h⟩:=Go.L.bind_some h;refine Ax rfl rfl cy (MI _ _ (As hH cy) (hU.mono (Ai hH)) f4) ?_;rintro _ jp ⟨bq,br,bs,rfl,dy,dz,d0⟩ c0 f5 fg;have ad:=dy.mono (Cj hH cy c0);have ae:=dz.mono (Cj hH cy c0);have af:=d0.mono (Cj hH cy c0);refine Ar 3 rfl<|AJ Bc rfl rfl f5 fun jq d1 f6 az _=>AJ AT rfl rfl f6 fun jr d2 f7 a2 _=>Ak 1 rfl rfl rfl Bc f7 rfl rfl (AF rfl (AF ad.one (AF rfl (AF ae.one (AF rfl (AF rfl (AF af.one BM))))))) fun js f8 a3=>Ak 0 rfl rfl rfl AT f8 rfl rfl (AF rfl (AF rfl BM)) fun jt d3 a4=>Ad ?_;have j:=d3.rG H;refine Al<|JJ (r:=.byte) (l:=[(111:UInt8),(120:UInt8)]) rfl (fun _=>Vo _ _ _) rfl (show 2≤9223372036854775807 by decide) hH d3 (.c1 rfl (.c1 rfl .nil)) ?_;intro ju jv iz f9 fh ga;obtain⟨gb,h⟩:=Ac h;refine WD 0 rfl AaQ AaS rfl hH f9 rfl ga gb ?_;intro jw cb fi cq;obtain⟨h7,gc,h⟩:=Go.L.bind_some h;refine Ax rfl rfl cb (Nj _ _ (As hH cb) gc) ?_
 rintro _ jx ⟨ia,ib,ic,rfl,d4,d5,d6⟩ c2 gd df;have cc:=d4.Ct hH cb c2;have cd:=d5.Ct hH cb c2;have ce:=d6.Ct hH cb c2;refine Af (AW rfl (fun _=>Sh _ cq.one _ _ _ _ _ _)) rfl<|JJ (r:=.byte) (l:=[(99:UInt8),(111:UInt8),(119:UInt8)]) rfl (fun _=>SO _ _ _ _) rfl (show 3≤9223372036854775807 by decide) hH gd (.c1 rfl (.c1 rfl (.c1 rfl .nil))) ?_;intro jy jz i0 ge bf gf;obtain⟨gg,h⟩:=Ac h;refine WD 0 rfl AaQ AaS rfl hH ge rfl gf gg ?_;intro j0 cf bg cr;obtain⟨h8,gh,h⟩:=Go.L.bind_some h;refine Ax rfl rfl cf (Nj _ _ (As hH cf) gh) ?_;rintro _ j1 ⟨ie,ig,ih,rfl,d7,d8,d9⟩ c3 gi bd;have ea:=d7.Ct hH cf c3;have eb:=d8.Ct hH cf c3;have ec:=d9.Ct hH cf c3;refine Af (AW rfl (fun _=>Sh _ cr.one _ _ _ _ _ _)) rfl ?_;have cq:=cq.mono (Ab hH (df.trans (bf.trans (bg.trans bd))));have cc:=cc.mono (Ab hH (bf.trans (bg.trans bd)));have cd:=cd.mono (Ab hH (bf.trans (bg.trans bd)));have ce:=ce.mono (Ab hH (bf.trans (bg.trans bd)));have cr:=cr.mono (Ab hH bd)
 refine Br (r:=(.pair (.vec .byte) .tree)) (l:=[([(111:UInt8),(120:UInt8)],h7),([(99:UInt8),(111:UInt8),(119:UInt8)],h8)]) rfl (fun _=>YN _ _ _ _ _ _ _ _ _ _ _ _ _) rfl (show 2≤9223372036854775807 by decide) hH gi (.c6 ⟨_,_,rfl,⟨_,rfl,cq⟩,(Go.E.Rp.D0 ⟨_,_,rfl,rfl,⟨_,_,rfl,rfl,⟨_,_,rfl,⟨_,rfl,cc⟩,⟨_,_,rfl,⟨_,rfl,cd⟩,⟨_,rfl,ce⟩⟩⟩⟩⟩)⟩ (.c6 ⟨_,_,rfl,⟨_,rfl,cr⟩,(Go.E.Rp.D0 ⟨_,_,rfl,rfl,⟨_,_,rfl,rfl,⟨_,_,rfl,⟨_,rfl,ea⟩,⟨_,_,rfl,⟨_,rfl,eb⟩,⟨_,rfl,ec⟩⟩⟩⟩⟩)⟩ .nil)) ?_;intro j2 j3 i1 cg fj gj;obtain⟨k,gk,h⟩:=Go.L.bind_some h;refine Ax rfl rfl cg (Qu _ _ (As hH cg) (hU.mono (Ai hH)) gj gk) ?_;rintro _ j4 ⟨bt,bu,bv,rfl,ed,ee,ef⟩ c4 gl fk;have y:=ed.mono (Cj hH cg c4);have aa:=ee.mono (Cj hH cg c4);have ab:=ef.Ct hH cg c4;refine Ar 3 rfl<|AJ MJ rfl rfl gl fun j5 eg gm bw _=>AJ AT rfl rfl gm fun j6 eh gn bx _=>Ak 1 rfl rfl rfl MJ gn rfl rfl (AF rfl (AF y.one (AF rfl (AF aa.one (AF ab.one BM))))) fun j7 go bz=>Ak 0 rfl rfl rfl AT go rfl rfl (AF rfl (AF rfl BM)) fun j8 cs b0=>Ad ?_;have e:=cs.rG H;refine Al ?_
 refine Af (AE 1 rfl Ab9 rfl MJ cs rfl) rfl<|Af (AE 5 rfl AaY rfl Bc cs rfl) rfl<|Br (r:=.bool) (l:=[true,true]) rfl (fun _=>Q4 _ _ _) rfl (show 2≤9223372036854775807 by decide) hH cs (.c1 rfl (.c1 rfl .nil)) ?_;intro j9 ka i2 c5 fl gp;obtain⟨cm,gq,h⟩:=Go.L.bind_some h;have aw:=aw.mono (Ab hH (f0.trans (f2.trans (f3.trans (fg.trans (az.trans (a2.trans (a3.trans a4))))))));have j:=j.trans (Ab hH (fh.trans (fi.trans (df.trans (bf.trans (bg.trans (bd.trans (fj.trans (fk.trans (bw.trans (bx.trans (bz.trans b0))))))))))));have y:=y.mono (Ab hH (bw.trans (bx.trans (bz.trans b0))));have aa:=aa.mono (Ab hH (bw.trans (bx.trans (bz.trans b0))));have ab:=ab.mono (Ab hH (bw.trans (bx.trans (bz.trans b0))));have e:=e.trans (Ab hH fl);refine Ax rfl rfl c5 (JI (a0:=((k.1.1.1,k.1.1.2),(k.1.2.1.1,k.1.2.1.2),k.1.2.2)) (a1:=(Go.L.Qv.mk (10:Int) ([]) ([]:Aas) ([]) (0:Int) (0:Int) ([x1]))) _ _ (As hH c5) (hU.mono (Ai hH)) (y.mono e) (aa.mono e) (ab.mono e) (AI.nil _ _) (AI.nil _ _) ((aw.mono j).mono e) gp gq) ?_;rintro _ kb ⟨ii,rfl,ei⟩ gr gs fm;have ch:=ei.Ct hH c5 gr
 refine Ar 3 rfl<|AJ AT rfl rfl gs fun kc ej gt dg _=>Ar 1 rfl<|Ak 0 rfl rfl rfl AT gt rfl rfl (AF rfl (AF rfl BM)) fun kd c8 dh=>Ad<|Al<|Af (AE 2 rfl Ab9 rfl MJ c8 rfl) rfl<|Af (AE 6 rfl AaY rfl Bc c8 rfl) rfl<|Br (r:=.bool) (l:=[true,false]) rfl (fun _=>Q4 _ _ _) rfl (show 2≤9223372036854775807 by decide) hH c8 (.c1 rfl (.c1 rfl .nil)) ?_;intro ke kf i3 c9 di gu;obtain⟨cn,gv,h⟩:=Go.L.bind_some h;have e:=e.trans (Ab hH (fm.trans (dg.trans (dh.trans di))));refine Ax rfl rfl c9 (JI (a0:=((k.1.1.1,k.1.1.2),(k.1.2.1.1,k.1.2.1.2),k.1.2.2)) (a1:=(Go.L.Qv.mk (10:Int) ([]) ([]:Aas) ([]) (0:Int) (0:Int) ([x1]))) _ _ (As hH c9) (hU.mono (Ai hH)) (y.mono e) (aa.mono e) (ab.mono e) (AI.nil _ _) (AI.nil _ _) ((aw.mono j).mono e) gu gv) ?_;rintro _ kg ⟨ij,rfl,ek⟩ gw gx dj;have ci:=ek.Ct hH c9 gw;refine Ar 3 rfl<|AJ AT rfl rfl gx fun kh el gy ct _=>Ar 1 rfl<|Ak 0 rfl rfl rfl AT gy rfl rfl (AF rfl (AF rfl BM)) fun ki em cu=>Ad<|Al<|Af (AE 3 rfl Ab9 rfl MJ em rfl) rfl ?_
 refine Br (r:=.bool) (l:=[false,true]) rfl (fun _=>Q4 _ _ _) rfl (show 2≤9223372036854775807 by decide) hH em (.c1 rfl (.c1 rfl .nil)) ?_;intro kj kk i4 da cv g0;obtain⟨co,g1,h⟩:=Go.L.bind_some h;have e:=e.trans (Ab hH (dj.trans (ct.trans (cu.trans cv))));refine Ax rfl rfl da (JD (a0:=((k.1.1.1,k.1.1.2),(k.1.2.1.1,k.1.2.1.2),k.1.2.2)) _ _ (As hH da) (y.mono e) (aa.mono e) (ab.mono e) g0 g1) ?_;rintro _ kl ⟨ik,rfl,en⟩ g2 g3 cw;have cj:=en.mono (Cj hH da g2);refine Ar 3 rfl<|AJ AT rfl rfl g3 fun km eo g4 b1 _=>Ar 1 rfl<|Ak 0 rfl rfl rfl AT g4 rfl rfl (AF rfl (AF rfl BM)) fun kn db b2=>Ad ?_;have g:=db.rG H;refine Al<|Af (AE 4 rfl Ab9 rfl MJ db rfl) rfl<|Br (r:=.bool) (l:=[true,false]) rfl (fun _=>Q4 _ _ _) rfl (show 2≤9223372036854775807 by decide) hH db (.c1 rfl (.c1 rfl .nil)) ?_;intro ko kp i5 ep fn g5;obtain⟨cp,g6,h⟩:=Go.L.bind_some h;have e:=e.trans (Ab hH (cw.trans (b1.trans b2)));have g:=g.trans (Ab hH fn)
 refine Ax rfl rfl ep (JD (a0:=((k.1.1.1,k.1.1.2),(k.1.2.1.1,k.1.2.1.2),k.1.2.2)) _ _ (As hH ep) ((y.mono e).mono g) ((aa.mono e).mono g) ((ab.mono e).mono g) g5 g6) ?_;rintro _ kq ⟨il,rfl,h9⟩ i6 g7 dk;refine Ar 3 rfl<|AJ AT rfl rfl g7 fun kr eq g8 dl _=>Ar 1 rfl<|Ak 0 rfl rfl rfl AT g8 rfl rfl (AF rfl (AF rfl BM)) fun ks ck dm=>Ad<|Al ?_;obtain⟨ao,g9,h⟩:=Go.L.bind_some h;refine Ax rfl rfl ck (MI _ _ (As hH ck) (hU.mono (Ai hH)) g9) ?_;rintro _ kt ⟨b3,b5,b6,rfl,er,es,et⟩ dc ha dn;have ag:=er.mono (Cj hH ck dc);have ah:=es.mono (Cj hH ck dc);have ai:=et.mono (Cj hH ck dc);refine Ar 3 rfl<|AJ Bc rfl rfl ha fun ku eu hb bh _=>AJ AT rfl rfl hb fun kv ev hc bi _=>Ak 1 rfl rfl rfl Bc hc rfl rfl (AF rfl (AF ag.one (AF rfl (AF ah.one (AF rfl (AF rfl (AF ai.one BM))))))) fun kw hd bj=>Ak 0 rfl rfl rfl AT hd rfl rfl (AF rfl (AF rfl BM)) fun kx be bk=>Ad ?_;have d:=be.rG H;refine Al<|Af (AE 1 rfl AaY rfl Bc be rfl) rfl ?_;obtain⟨ap,he,h⟩:=Go.L.bind_some h
 have ag:=ag.mono (Ab hH (bh.trans (bi.trans (bj.trans bk))));have ah:=ah.mono (Ab hH (bh.trans (bi.trans (bj.trans bk))));have ai:=ai.mono (Ab hH (bh.trans (bi.trans (bj.trans bk))));refine Ax rfl rfl be (Mc (a0:=ao.1) _ _ (As hH be) (hU.mono (Ai hH)) (ag.mono d) (ah.mono d) (ai.mono d) he) ?_;rintro _ ky ⟨b7,b9,ca,rfl,ew,ex,ey⟩ dd hf dp;have aj:=ew.mono (Cj hH be dd);have ak:=ex.mono (Cj hH be dd);have al:=ey.mono (Cj hH be dd);refine Ar 3 rfl<|AJ Bc rfl rfl hf fun kz ez hg bl _=>AJ AT rfl rfl hg fun k0 e0 hh bm _=>Ak 1 rfl rfl rfl Bc hh rfl rfl (AF rfl (AF aj.one (AF rfl (AF ak.one (AF rfl (AF rfl (AF al.one BM))))))) fun k1 hi bn=>Ak 0 rfl rfl rfl AT hi rfl rfl (AF rfl (AF rfl BM)) fun k2 cx bo=>Ad ?_;have c:=cx.rG H;refine Al<|Af (AE 1 rfl AaY rfl Bc cx rfl) rfl ?_;obtain⟨cl,hj,h⟩:=Go.L.bind_some h;have aj:=aj.mono (Ab hH (bl.trans (bm.trans (bn.trans bo))));have ak:=ak.mono (Ab hH (bl.trans (bm.trans (bn.trans bo))))
 have al:=al.mono (Ab hH (bl.trans (bm.trans (bn.trans bo))));refine Ax rfl rfl cx (IW (a0:=ap.1) _ _ (As hH cx) (hU.mono (Ai hH)) (aj.mono c) (ak.mono c) (al.mono c) hj) ?_;rintro _ k3 rfl i7 hk dq;refine Ar 3 rfl<|AJ AT rfl rfl hk fun k4 e1 hl dr _=>Ar 1 rfl<|Ak 0 rfl rfl rfl AT hl rfl rfl (AF rfl (AF rfl BM)) fun k5 ay ds=>Ad<|A8<|Al<|Af (Ag rfl AaR rfl BG (by decide)) rfl<|Af (Ah 13 rfl Aau rfl ay rfl rfl) rfl<|Ar 2 rfl<|AQ (s:=90) rfl (fun a5=>?_) (fun a5=>?_)
 ·have h:=A2 (CT a5) h
  iterate 3 refine Aj rfl rfl a5 rfl ?_
  refine Af (A3 rfl a5 rfl) rfl<|Ar 1 rfl ?_
  iterate 3 refine Aj rfl rfl rfl rfl ?_
  refine Af (A3 rfl rfl rfl) rfl<|Ar 1 rfl ?_
  iterate 3 refine Aj rfl rfl rfl rfl ?_
  refine Af (A3 rfl rfl rfl) rfl<|Ar 1 rfl ?_
  iterate 3 refine Aj rfl rfl rfl rfl ?_
  refine Af (A3 rfl rfl rfl) rfl<|Ar 1 rfl ?_
  iterate 3 refine Aj rfl rfl rfl rfl ?_
  refine Af (A3 rfl rfl rfl) rfl<|Ar 1 rfl ?_
  iterate 3 refine Aj rfl rfl rfl rfl ?_
  refine Af (A3 rfl rfl rfl) rfl<|Ar 1 rfl ?_
  iterate 3 refine Aj rfl rfl rfl rfl ?_
  refine Af (A3 rfl rfl rfl) rfl<|Ar 1 rfl ?_
  iterate 3 refine Aj rfl rfl rfl rfl ?_
  refine Af (A3 rfl rfl rfl) rfl<|Ad<|Ce rfl ?_
  cases h
 have h:=A1 (CU a5) h;refine Aa rfl rfl a5<|Af (Ag rfl AaR rfl BG (by decide)) rfl<|Aa rfl rfl a5<|Af (Ah 11 rfl Aau rfl ay rfl rfl) rfl<|Aa rfl rfl a5<|Af (Ae rfl) rfl<|Af (A7 rfl a5 rfl) rfl<|Ar 1 rfl<|AQ (s:=95) rfl (fun a6=>?_) (fun a6=>?_)
 ·have h:=A2 (CT a6) h
  iterate 3 refine Aj rfl rfl a6 rfl ?_
  refine Af (A3 rfl a6 rfl) rfl<|Ar 1 rfl ?_
  iterate 3 refine Aj rfl rfl rfl rfl ?_
  refine Af (A3 rfl rfl rfl) rfl<|Ar 1 rfl ?_
  iterate 3 refine Aj rfl rfl rfl rfl ?_
  refine Af (A3 rfl rfl rfl) rfl<|Ar 1 rfl ?_
  iterate 3 refine Aj rfl rfl rfl rfl ?_
  refine Af (A3 rfl rfl rfl) rfl<|Ar 1 rfl ?_
  iterate 3 refine Aj rfl rfl rfl rfl ?_
  refine Af (A3 rfl rfl rfl) rfl<|Ar 1 rfl ?_
  iterate 3 refine Aj rfl rfl rfl rfl ?_
  refine Af (A3 rfl rfl rfl) rfl<|Ar 1 rfl ?_
  iterate 3 refine Aj rfl rfl rfl rfl ?_
  refine Af (A3 rfl rfl rfl) rfl<|Ad<|Ce rfl ?_
  cases h
 have h:=A1 (CU a6) h;refine Aa rfl rfl a6<|Af (Ag rfl AaR rfl BG (by decide)) rfl<|Aa rfl rfl a6<|Af (Ah 9 rfl Aau rfl ay rfl rfl) rfl<|Aa rfl rfl a6<|Af (Ae rfl) rfl<|Af (A7 rfl a6 rfl) rfl<|Ar 1 rfl<|AQ (s:=100) rfl (fun a7=>?_) (fun a7=>?_)
 ·have h:=A2 (CT a7) h
  iterate 3 refine Aj rfl rfl a7 rfl ?_
  refine Af (A3 rfl a7 rfl) rfl<|Ar 1 rfl ?_
  iterate 3 refine Aj rfl rfl rfl rfl ?_
  refine Af (A3 rfl rfl rfl) rfl<|Ar 1 rfl ?_
  iterate 3 refine Aj rfl rfl rfl rfl ?_
  refine Af (A3 rfl rfl rfl) rfl<|Ar 1 rfl ?_
  iterate 3 refine Aj rfl rfl rfl rfl ?_
  refine Af (A3 rfl rfl rfl) rfl<|Ar 1 rfl ?_
  iterate 3 refine Aj rfl rfl rfl rfl ?_
  refine Af (A3 rfl rfl rfl) rfl<|Ar 1 rfl ?_
  iterate 3 refine Aj rfl rfl rfl rfl ?_
  refine Af (A3 rfl rfl rfl) rfl<|Ad<|Ce rfl ?_
  cases h
 have h:=A1 (CU a7) h;refine Aa rfl rfl a7<|Af (Ag rfl AaR rfl BG (by decide)) rfl<|Aa rfl rfl a7<|Af (Ah 8 rfl Aau rfl ay rfl rfl) rfl<|Aa rfl rfl a7<|Af (Ae rfl) rfl<|Af (A7 rfl a7 rfl) rfl<|Ar 1 rfl<|AQ (s:=105) rfl (fun a8=>?_) (fun a8=>?_)
 ·have h:=A2 (CT a8) h
  iterate 3 refine Aj rfl rfl a8 rfl ?_
  refine Af (A3 rfl a8 rfl) rfl<|Ar 1 rfl ?_
  iterate 3 refine Aj rfl rfl rfl rfl ?_
  refine Af (A3 rfl rfl rfl) rfl<|Ar 1 rfl ?_
  iterate 3 refine Aj rfl rfl rfl rfl ?_
  refine Af (A3 rfl rfl rfl) rfl<|Ar 1 rfl ?_
  iterate 3 refine Aj rfl rfl rfl rfl ?_
  refine Af (A3 rfl rfl rfl) rfl<|Ar 1 rfl ?_
  iterate 3 refine Aj rfl rfl rfl rfl ?_
  refine Af (A3 rfl rfl rfl) rfl<|Ad<|Ce rfl ?_
  cases h
 have h:=A1 (CU a8) h;refine Aa rfl rfl a8<|Af (Ag rfl AaR rfl BG (by decide)) rfl<|Aa rfl rfl a8<|Af (Ah 7 rfl Aau rfl ay rfl rfl) rfl<|Aa rfl rfl a8<|Af (Ae rfl) rfl<|Af (A7 rfl a8 rfl) rfl<|Ar 1 rfl<|AQ (s:=110) rfl (fun a9=>?_) (fun a9=>?_)
 ·have h:=A2 (CT a9) h
  iterate 3 refine Aj rfl rfl a9 rfl ?_
  refine Af (A3 rfl a9 rfl) rfl<|Ar 1 rfl ?_
  iterate 3 refine Aj rfl rfl rfl rfl ?_
  refine Af (A3 rfl rfl rfl) rfl<|Ar 1 rfl ?_
  iterate 3 refine Aj rfl rfl rfl rfl ?_
  refine Af (A3 rfl rfl rfl) rfl<|Ar 1 rfl ?_
  iterate 3 refine Aj rfl rfl rfl rfl ?_
  refine Af (A3 rfl rfl rfl) rfl<|Ad<|Ce rfl ?_
  cases h
 have h:=A1 (CU a9) h;refine Aa rfl rfl a9<|Af (Ag rfl AaR rfl BG (by decide)) rfl<|Aa rfl rfl a9<|Af (Ah 6 rfl Aau rfl ay rfl rfl) rfl<|Aa rfl rfl a9<|Af (Ae rfl) rfl<|Af (A7 rfl a9 rfl) rfl<|Ar 1 rfl<|AQ (s:=115) rfl (fun ba=>?_) (fun ba=>?_)
 ·have h:=A2 (CT ba) h
  iterate 3 refine Aj rfl rfl ba rfl ?_
  refine Af (A3 rfl ba rfl) rfl<|Ar 1 rfl ?_
  iterate 3 refine Aj rfl rfl rfl rfl ?_
  refine Af (A3 rfl rfl rfl) rfl<|Ar 1 rfl ?_
  iterate 3 refine Aj rfl rfl rfl rfl ?_
  refine Af (A3 rfl rfl rfl) rfl<|Ad<|Ce rfl ?_
  cases h
 have h:=A1 (CU ba) h;refine Aa rfl rfl ba<|Af (Ag rfl AaR rfl BG (by decide)) rfl<|Aa rfl rfl ba<|Af (Ah 3 rfl Aau rfl ay rfl rfl) rfl<|Aa rfl rfl ba<|Af (Ae rfl) rfl<|Af (A7 rfl ba rfl) rfl<|Ar 1 rfl<|AQ (s:=120) rfl (fun bb=>?_) (fun bb=>?_)
 ·have h:=A2 (CT bb) h
  iterate 3 refine Aj rfl rfl bb rfl ?_
  refine Af (A3 rfl bb rfl) rfl<|Ar 1 rfl ?_
  iterate 3 refine Aj rfl rfl rfl rfl ?_
  refine Af (A3 rfl rfl rfl) rfl<|Ad<|Ce rfl ?_
  cases h
 have h:=A1 (CU bb) h;refine Aa rfl rfl bb<|Af (Ag rfl AaR rfl BG (by decide)) rfl<|Aa rfl rfl bb<|Af (Ah 1 rfl Aau rfl ay rfl rfl) rfl<|Aa rfl rfl bb<|Af (Ae rfl) rfl<|Af (A7 rfl bb rfl) rfl<|Ar 1 rfl<|AQ (s:=125) rfl (fun bc=>?_) (fun bc=>?_)
 ·have h:=A2 (CT bc) h
  iterate 3 refine Aj rfl rfl bc rfl ?_
  refine Af (A3 rfl bc rfl) rfl<|Ad<|Ce rfl ?_
  cases h
 have h:=A1 (CU bc) h;refine Aa rfl rfl bc<|Af (Ag rfl AaR rfl BG (by decide)) rfl<|Aa rfl rfl bc<|Af (Ah 0 rfl Aau rfl ay rfl rfl) rfl<|Aa rfl rfl bc<|Af (Ae rfl) rfl<|Af (A7 rfl bc rfl) rfl<|Ad<|C9 rfl (fun de=>?_) (fun de=>?_)
 ·have h:=A2 de h
  cases h
 have h:=A1 de h;refine Av<|Ao ?_
 refine Bm (σ:=Bool) (fun bp=>[(0,.bool bp)]) (fun bp wr=>DM w [.box e1 [No cl.2.1,No cl.2.2] 28,.box e0 [No ap.2.1,No ap.2.2] 28,.box ez [No ap.1.f.1,b7,Aar ap.1.f.2.2.1,b9,No ap.1.f.2.2.2.2.1,No ap.1.f.2.2.2.2.2.1,ca] 26,.box ev [No ao.2.1,No ao.2.2] 28,.box eu [No ao.1.f.1,b3,Aar ao.1.f.2.2.1,b5,No ao.1.f.2.2.2.2.1,No ao.1.f.2.2.2.2.2.1,b6] 26,.box eq [No cp.2.1,No cp.2.2] 28,.box eo [No co.2.1,No co.2.2] 28,.box el [No cn.2.1,No cn.2.2] 28,.box ej [No cm.2.1,No cm.2.2] 28,.box eh [No k.2.1,No k.2.2] 28,.box eg [No k.1.1.1,bt,No k.1.2.1.1,bu,bv] 52,.box d2 [No an.2.1,No an.2.2] 28,.box d1 [No an.1.f.1,bq,Aar an.1.f.2.2.1,br,No an.1.f.2.2.2.2.1,No an.1.f.2.2.2.2.2.1,bs] 26,.box b8 [No x6.2.1,No x6.2.2] 28,.box b4 [No (10:Int),Aak,.string ⟨(([]:Aas)).toArray⟩,Aak,No (0:Int),No (0:Int),v3] 26] wr fun Oz=>AI .st (gz H w wr Oz) (b7) (ap.1.f.2.1)∧AI .byte (gz H w wr Oz) (b9) (ap.1.f.2.2.2.1)∧AI .AV (gz H w wr Oz) (ca) (ap.1.f.2.2.2.2.2.2)∧AI .st (gz H w wr Oz) (b3) (ao.1.f.2.1)∧AI .byte (gz H w wr Oz) (b5) (ao.1.f.2.2.2.1)∧AI .AV (gz H w wr Oz) (b6) (ao.1.f.2.2.2.2.2.2)∧AI (.pair .st (.vec (.pair (.int .i64) (.int .i64)))) (gz H w wr Oz) (bt) (k.1.1.2)∧AI (.pair (.pair .st (.pair (.int .i64) (.pair (.int .i64) .st))) (.vec (.int .i64))) (gz H w wr Oz) (bu) (k.1.2.1.2)∧AI (.pair (.vec (.int .i64)) (.pair (.vec (.int .i64)) (.vec (.int .i64)))) (gz H w wr Oz) (bv) (k.1.2.2)∧AI .st (gz H w wr Oz) (bq) (an.1.f.2.1)∧AI .byte (gz H w wr Oz) (br) (an.1.f.2.2.2.1)∧AI .AV (gz H w wr Oz) (bs) (an.1.f.2.2.2.2.2.2)∧AI .AV (gz H w wr Oz) (v3) ([x1])∧Ei bp=some r) ?_ ?_
 ·refine Jj (L8 Lo) (fun z0 z=>Le (gz H w z0 [.box e1 [No cl.2.1,No cl.2.2] 28,.box e0 [No ap.2.1,No ap.2.2] 28,.box ez [No ap.1.f.1,b7,Aar ap.1.f.2.2.1,b9,No ap.1.f.2.2.2.2.1,No ap.1.f.2.2.2.2.2.1,ca] 26,.box ev [No ao.2.1,No ao.2.2] 28,.box eu [No ao.1.f.1,b3,Aar ao.1.f.2.2.1,b5,No ao.1.f.2.2.2.2.1,No ao.1.f.2.2.2.2.2.1,b6] 26,.box eq [No cp.2.1,No cp.2.2] 28,.box eo [No co.2.1,No co.2.2] 28,.box el [No cn.2.1,No cn.2.2] 28,.box ej [No cm.2.1,No cm.2.2] 28,.box eh [No k.2.1,No k.2.2] 28,.box eg [No k.1.1.1,bt,No k.1.2.1.1,bu,bv] 52,.box d2 [No an.2.1,No an.2.2] 28,.box d1 [No an.1.f.1,bq,Aar an.1.f.2.2.1,br,No an.1.f.2.2.2.2.1,No an.1.f.2.2.2.2.2.1,bs] 26,.box b8 [No x6.2.1,No x6.2.2] 28,.box b4 [No (10:Int),Aak,.string ⟨(([]:Aas)).toArray⟩,Aak,No (0:Int),No (0:Int),v3] 26]) (hp z)∧z.heap[e1]? = some (.cells [No cl.2.1,No cl.2.2].toArray 28 (0,0))∧z.heap[e0]? = some (.cells [No ap.2.1,No ap.2.2].toArray 28 (0,0))∧z.heap[ez]? = some (.cells [No ap.1.f.1,b7,Aar ap.1.f.2.2.1,b9,No ap.1.f.2.2.2.2.1,No ap.1.f.2.2.2.2.2.1,ca].toArray 26 (0,0))∧z.heap[ev]? = some (.cells [No ao.2.1,No ao.2.2].toArray 28 (0,0))∧z.heap[eu]? = some (.cells [No ao.1.f.1,b3,Aar ao.1.f.2.2.1,b5,No ao.1.f.2.2.2.2.1,No ao.1.f.2.2.2.2.2.1,b6].toArray 26 (0,0))∧z.heap[eq]? = some (.cells [No cp.2.1,No cp.2.2].toArray 28 (0,0))∧z.heap[eo]? = some (.cells [No co.2.1,No co.2.2].toArray 28 (0,0))∧z.heap[el]? = some (.cells [No cn.2.1,No cn.2.2].toArray 28 (0,0))∧z.heap[ej]? = some (.cells [No cm.2.1,No cm.2.2].toArray 28 (0,0))∧z.heap[eh]? = some (.cells [No k.2.1,No k.2.2].toArray 28 (0,0))∧z.heap[eg]? = some (.cells [No k.1.1.1,bt,No k.1.2.1.1,bu,bv].toArray 52 (0,0))∧z.heap[d2]? = some (.cells [No an.2.1,No an.2.2].toArray 28 (0,0))∧z.heap[d1]? = some (.cells [No an.1.f.1,bq,Aar an.1.f.2.2.1,br,No an.1.f.2.2.2.2.1,No an.1.f.2.2.2.2.2.1,bs].toArray 26 (0,0))∧z.heap[b8]? = some (.cells [No x6.2.1,No x6.2.2].toArray 28 (0,0))∧z.heap[b4]? = some (.cells [No (10:Int),Aak,.string ⟨(([]:Aas)).toArray⟩,Aak,No (0:Int),No (0:Int),v3].toArray 26 (0,0))) mixed rfl (fun a i9 dt=>?_)
  have m:=ay.call dt;have cz:=AX ay dt;have b:=m.rG H;refine Lq ⟨b.trans (As hH m),m.at (i:=0) rfl,m.at (i:=1) rfl,m.at (i:=2) rfl,m.at (i:=3) rfl,m.at (i:=4) rfl,m.at (i:=5) rfl,m.at (i:=6) rfl,m.at (i:=7) rfl,m.at (i:=8) rfl,m.at (i:=9) rfl,m.at (i:=10) rfl,m.at (i:=11) rfl,m.at (i:=12) rfl,m.at (i:=13) rfl,m.at (i:=14) rfl⟩ fun kI149=>?_;refine AG 0 a kI149 (by kernel_rfl) rfl (fun _ _=>Ae rfl) rfl<|AG 1 a kI149 (by kernel_rfl) rfl (fun _ _=>LP rfl rfl) rfl<|AG 2 a kI149 (by kernel_rfl) rfl (fun _ _=>Ae rfl) rfl<|LR (s:=132) rfl (fun aq=>?_) (fun aq=>?_)
  ·have h:=A1 (of_decide_eq_true aq) h;refine G4 3 a kI149 (by kernel_rfl) rfl rfl rfl rfl aq (fun _ hI=>KK rfl AaY rfl Bc hI.2.2.2.2.2.2.2.2.2.2.2.2.2.1) rfl<|G4 4 a kI149 (by kernel_rfl) rfl rfl rfl rfl aq (fun _ hI=>KK rfl AaY rfl Bc hI.2.2.2.2.2.2.2.2.2.2.2.2.2.2.2) rfl<|Ea (i:=5) (by kernel_rfl) rfl<|Aa rfl rfl aq ?_;obtain⟨ja,fo,h⟩:=Go.L.bind_some h;have ad:=ad.mono (Ab hH (az.trans (a2.trans (a3.trans a4))));have ae:=ae.mono (Ab hH (az.trans (a2.trans (a3.trans a4))));have af:=af.mono (Ab hH (az.trans (a2.trans (a3.trans a4))));have g:=g.trans (Ab hH (dk.trans (dl.trans (dm.trans (dn.trans (bh.trans (bi.trans (bj.trans bk))))))));have d:=d.trans (Ab hH (dp.trans (bl.trans (bm.trans (bn.trans bo)))));have c:=c.trans (Ab hH (dq.trans (dr.trans (ds.trans cz))))
   refine Ax rfl rfl m (Gb (a0:=an.1) (a1:=(Go.L.Qv.mk (10:Int) ([]) ([]:Aas) ([]) (0:Int) (0:Int) ([x1]))) _ _ (As hH m) ((((((ad.mono j).mono e).mono g).mono d).mono c).mono b) ((((((ae.mono j).mono e).mono g).mono d).mono c).mono b) ((((((af.mono j).mono e).mono g).mono d).mono c).mono b) (AI.nil _ _) (AI.nil _ _) ((((((aw.mono j).mono e).mono g).mono d).mono c).mono b) fo) ?_;rintro _ jb rfl im q e2;have b:=b.trans (Ab hH e2);refine Bd ⟨b.trans (As hH q),q.at (i:=0) rfl,q.at (i:=1) rfl,q.at (i:=2) rfl,q.at (i:=3) rfl,q.at (i:=4) rfl,q.at (i:=5) rfl,q.at (i:=6) rfl,q.at (i:=7) rfl,q.at (i:=8) rfl,q.at (i:=9) rfl,q.at (i:=10) rfl,q.at (i:=11) rfl,q.at (i:=12) rfl,q.at (i:=13) rfl,q.at (i:=14) rfl⟩ fun kI154=>?_;refine AG 6 a kI154 (by kernel_rfl) rfl (fun _ _=>A3 rfl aq rfl) rfl<|AG 7 a kI154 (by kernel_rfl) rfl (fun _ _=>Ae rfl) rfl<|LR (s:=137) rfl (fun ar=>?_) (fun ar=>?_)
   ·have h:=Bv ar h;refine G4 8 a kI154 (by kernel_rfl) rfl rfl rfl rfl ar (fun _ _=>Ae rfl) rfl<|Ea (i:=9) (by kernel_rfl) rfl<|Aa rfl rfl ar<|Br (r:=(.int .i64)) (l:=[(1:Int)]) rfl (fun _=>Ig _ _) rfl (show 1≤9223372036854775807 by decide) hH q (.c1 rfl .nil) ?_;intro jc jd io t e3 fp;have b:=b.trans (Ab hH e3);refine Bd ⟨b.trans (As hH t),t.at (i:=0) rfl,t.at (i:=1) rfl,t.at (i:=2) rfl,t.at (i:=3) rfl,t.at (i:=4) rfl,t.at (i:=5) rfl,t.at (i:=6) rfl,t.at (i:=7) rfl,t.at (i:=8) rfl,t.at (i:=9) rfl,t.at (i:=10) rfl,t.at (i:=11) rfl,t.at (i:=12) rfl,t.at (i:=13) rfl,t.at (i:=14) rfl⟩ fun kI158=>?_;refine Ea (i:=10) (by kernel_rfl) rfl<|Aa rfl rfl ar ?_;obtain⟨je,fq,h⟩:=Go.L.bind_some h;have ch:=ch.mono (Ab hH (dg.trans (dh.trans (di.trans (dj.trans (ct.trans (cu.trans (cv.trans (cw.trans (b1.trans b2))))))))));refine Ax rfl rfl t (SP _ _ (As hH t) ((((ch.mono g).mono d).mono c).mono b) fp fq) ?_;rintro _ jf rfl ip o e4;have b:=b.trans (Ab hH e4)
    refine Bd ⟨b.trans (As hH o),o.at (i:=0) rfl,o.at (i:=1) rfl,o.at (i:=2) rfl,o.at (i:=3) rfl,o.at (i:=4) rfl,o.at (i:=5) rfl,o.at (i:=6) rfl,o.at (i:=7) rfl,o.at (i:=8) rfl,o.at (i:=9) rfl,o.at (i:=10) rfl,o.at (i:=11) rfl,o.at (i:=12) rfl,o.at (i:=13) rfl,o.at (i:=14) rfl⟩ fun kI161=>?_;refine AG 11 a kI161 (by kernel_rfl) rfl (fun _ _=>A3 rfl ar rfl) rfl<|AG 12 a kI161 (by kernel_rfl) rfl (fun _ _=>Ae rfl) rfl<|LR (s:=142) rfl (fun au=>?_) (fun au=>?_)
    ·have h:=Bv au h;refine G4 13 a kI161 (by kernel_rfl) rfl rfl rfl rfl au (fun _ _=>Ae rfl) rfl ?_;have ci:=ci.mono (Ab hH (ct.trans (cu.trans (cv.trans (cw.trans (b1.trans b2))))));refine G4 14 a kI161 (by kernel_rfl) rfl rfl rfl rfl au (fun _ _=>Bn rfl Aat ((((ci.mono g).mono d).mono c).mono b)) rfl<|G4 15 a kI161 (by kernel_rfl) rfl rfl rfl rfl au (fun _ _=>Ae rfl) rfl<|AG 16 a kI161 (by kernel_rfl) rfl (fun _ _=>A3 rfl au rfl) rfl<|AG 17 a kI161 (by kernel_rfl) rfl (fun _ _=>Ae rfl) rfl<|LR (s:=147) rfl (fun am=>?_) (fun am=>?_)
     ·have h:=A1 (of_decide_eq_true am) h;refine G4 18 a kI161 (by kernel_rfl) rfl rfl rfl rfl am (fun _ _=>Ae rfl) rfl<|Ea (i:=19) (by kernel_rfl) rfl<|Aa rfl rfl am<|JJ (r:=.byte) (l:=[(99:UInt8),(111:UInt8)]) rfl (fun _=>Vo _ _ _) rfl (show 2≤9223372036854775807 by decide) hH o (.c1 rfl (.c1 rfl .nil)) ?_;intro jg jh iq ac e5 fr;have b:=b.trans (Ab hH e5);refine Bd ⟨b.trans (As hH ac),ac.at (i:=1) rfl,ac.at (i:=2) rfl,ac.at (i:=3) rfl,ac.at (i:=4) rfl,ac.at (i:=5) rfl,ac.at (i:=6) rfl,ac.at (i:=7) rfl,ac.at (i:=8) rfl,ac.at (i:=9) rfl,ac.at (i:=10) rfl,ac.at (i:=11) rfl,ac.at (i:=12) rfl,ac.at (i:=13) rfl,ac.at (i:=14) rfl,ac.at (i:=15) rfl⟩ fun kI167=>?_;refine Ea (i:=20) (by kernel_rfl) rfl<|Aa rfl rfl am ?_;obtain⟨fs,h⟩:=Ac h;refine WD 0 rfl AaQ AaS rfl hH ac rfl fr fs ?_;intro ji u e6 ft;have b:=b.trans (Ab hH e6)
      refine Bd ⟨b.trans (As hH u),u.at (i:=0) rfl,u.at (i:=1) rfl,u.at (i:=2) rfl,u.at (i:=3) rfl,u.at (i:=4) rfl,u.at (i:=5) rfl,u.at (i:=6) rfl,u.at (i:=7) rfl,u.at (i:=8) rfl,u.at (i:=9) rfl,u.at (i:=10) rfl,u.at (i:=11) rfl,u.at (i:=12) rfl,u.at (i:=13) rfl,u.at (i:=14) rfl⟩ fun kI170=>?_;refine Ea (i:=21) (by kernel_rfl) rfl<|Aa rfl rfl am ?_;obtain⟨jj,fu,h⟩:=Go.L.bind_some h;have cj:=cj.mono (Ab hH (b1.trans b2));refine Ax rfl rfl u (Lt _ _ (As hH u) ((((cj.mono g).mono d).mono c).mono b) ft fu) ?_;rintro _ jk rfl ir p e7;have b:=b.trans (Ab hH e7);refine Bd ⟨b.trans (As hH p),p.at (i:=0) rfl,p.at (i:=1) rfl,p.at (i:=2) rfl,p.at (i:=3) rfl,p.at (i:=4) rfl,p.at (i:=5) rfl,p.at (i:=6) rfl,p.at (i:=7) rfl,p.at (i:=8) rfl,p.at (i:=9) rfl,p.at (i:=10) rfl,p.at (i:=11) rfl,p.at (i:=12) rfl,p.at (i:=13) rfl,p.at (i:=14) rfl⟩ fun kI173=>?_;refine AG 22 a kI173 (by kernel_rfl) rfl (fun _ _=>A3 rfl am rfl) rfl<|AG 23 a kI173 (by kernel_rfl) rfl (fun _ _=>Ae rfl) rfl<|LR (s:=153) rfl (fun av=>?_) (fun av=>?_)
      ·have h:=Bv av h;refine G4 24 a kI173 (by kernel_rfl) rfl rfl rfl rfl av (fun _ hI=>KK rfl AaR rfl AT hI.2.2.2.2.2.2.1) rfl<|Ea (i:=25) (by kernel_rfl) rfl<|Aa rfl rfl av ?_;obtain⟨jl,fv,h⟩:=Go.L.bind_some h;refine Ax rfl rfl p (Gi _ _ (As hH p) fv) ?_;rintro _ jm rfl is x e8;have b:=b.trans (Ab hH e8);refine Bd ⟨b.trans (As hH x),x.at (i:=0) rfl,x.at (i:=1) rfl,x.at (i:=2) rfl,x.at (i:=3) rfl,x.at (i:=4) rfl,x.at (i:=5) rfl,x.at (i:=6) rfl,x.at (i:=7) rfl,x.at (i:=8) rfl,x.at (i:=9) rfl,x.at (i:=10) rfl,x.at (i:=11) rfl,x.at (i:=12) rfl,x.at (i:=13) rfl,x.at (i:=14) rfl⟩ fun kI178=>?_;refine G4 26 a kI178 (by kernel_rfl) rfl rfl rfl rfl av (fun _ _=>T9 rfl rfl IC (LA _ _ _ _)) rfl<|AG 27 a kI178 (by kernel_rfl) rfl (fun _ _=>A3 rfl av rfl) rfl<|AG 28 a kI178 (by kernel_rfl) rfl (fun _ _=>Ae rfl) rfl<|LR (s:=158) rfl (fun ax=>?_) (fun ax=>?_)
       ·have h:=A1 (of_decide_eq_true ax) h;refine G4 29 a kI178 (by kernel_rfl) rfl rfl rfl rfl ax (fun _ _=>Ae rfl) rfl<|G4 30 a kI178 (by kernel_rfl) rfl rfl rfl rfl ax (fun _ _=>LP rfl rfl) rfl<|AG 31 a kI178 (by kernel_rfl) rfl (fun _ _=>A3 rfl ax rfl) rfl<|AG 32 a kI178 (by kernel_rfl) rfl (fun _ _=>Ae rfl) rfl<|Dz (by kernel_rfl)<|A9 (decide (cl.1=([33,97,38,98]:Aas))) (.cons rfl (Sub.nil _)) ⟨x,((aj.mono c).mono b),((ak.mono c).mono b),((al.mono c).mono b),(((ag.mono d).mono c).mono b),(((ah.mono d).mono c).mono b),(((ai.mono d).mono c).mono b),(((((y.mono e).mono g).mono d).mono c).mono b),(((((aa.mono e).mono g).mono d).mono c).mono b),(((((ab.mono e).mono g).mono d).mono c).mono b),((((((ad.mono j).mono e).mono g).mono d).mono c).mono b),((((((ae.mono j).mono e).mono g).mono d).mono c).mono b),((((((af.mono j).mono e).mono g).mono d).mono c).mono b),((((((aw.mono j).mono e).mono g).mono d).mono c).mono b),h⟩
       have h:=A2 (of_decide_eq_false ax) h;refine BS 29 a kI178 (by kernel_rfl) rfl rfl rfl rfl ax rfl<|BS 30 a kI178 (by kernel_rfl) rfl rfl rfl rfl ax rfl<|AG 31 a kI178 (by kernel_rfl) rfl (fun _ _=>A7 rfl ax rfl) rfl<|AG 32 a kI178 (by kernel_rfl) rfl (fun _ _=>Ae rfl) rfl<|Dz (by kernel_rfl)<|A9 false (.cons rfl (Sub.nil _)) ⟨x,((aj.mono c).mono b),((ak.mono c).mono b),((al.mono c).mono b),(((ag.mono d).mono c).mono b),(((ah.mono d).mono c).mono b),(((ai.mono d).mono c).mono b),(((((y.mono e).mono g).mono d).mono c).mono b),(((((aa.mono e).mono g).mono d).mono c).mono b),(((((ab.mono e).mono g).mono d).mono c).mono b),((((((ad.mono j).mono e).mono g).mono d).mono c).mono b),((((((ae.mono j).mono e).mono g).mono d).mono c).mono b),((((((af.mono j).mono e).mono g).mono d).mono c).mono b),((((((aw.mono j).mono e).mono g).mono d).mono c).mono b),h⟩
      have h:=Bw av h;refine BS 24 a kI173 (by kernel_rfl) rfl rfl rfl rfl av rfl<|BS 25 a kI173 (by kernel_rfl) rfl rfl rfl rfl av rfl<|BS 26 a kI173 (by kernel_rfl) rfl rfl rfl rfl av rfl<|AG 27 a kI173 (by kernel_rfl) rfl (fun _ _=>A7 rfl av rfl) rfl<|AG 28 a kI173 (by kernel_rfl) rfl (fun _ _=>Ae rfl) rfl<|BS 29 a kI173 (by kernel_rfl) rfl rfl rfl rfl rfl rfl<|BS 30 a kI173 (by kernel_rfl) rfl rfl rfl rfl rfl rfl<|AG 31 a kI173 (by kernel_rfl) rfl (fun _ _=>A7 rfl rfl rfl) rfl<|AG 32 a kI173 (by kernel_rfl) rfl (fun _ _=>Ae rfl) rfl<|Dz (by kernel_rfl) ?_
      refine A9 false (.cons rfl (Sub.nil _)) ⟨p,((aj.mono c).mono b),((ak.mono c).mono b),((al.mono c).mono b),(((ag.mono d).mono c).mono b),(((ah.mono d).mono c).mono b),(((ai.mono d).mono c).mono b),(((((y.mono e).mono g).mono d).mono c).mono b),(((((aa.mono e).mono g).mono d).mono c).mono b),(((((ab.mono e).mono g).mono d).mono c).mono b),((((((ad.mono j).mono e).mono g).mono d).mono c).mono b),((((((ae.mono j).mono e).mono g).mono d).mono c).mono b),((((((af.mono j).mono e).mono g).mono d).mono c).mono b),((((((aw.mono j).mono e).mono g).mono d).mono c).mono b),h⟩
     have h:=A2 (of_decide_eq_false am) h;refine BS 18 a kI161 (by kernel_rfl) rfl rfl rfl rfl am rfl<|BS 19 a kI161 (by kernel_rfl) rfl rfl rfl rfl am rfl<|BS 20 a kI161 (by kernel_rfl) rfl rfl rfl rfl am rfl<|BS 21 a kI161 (by kernel_rfl) rfl rfl rfl rfl am rfl<|AG 22 a kI161 (by kernel_rfl) rfl (fun _ _=>A7 rfl am rfl) rfl<|AG 23 a kI161 (by kernel_rfl) rfl (fun _ _=>Ae rfl) rfl<|BS 24 a kI161 (by kernel_rfl) rfl rfl rfl rfl rfl rfl<|BS 25 a kI161 (by kernel_rfl) rfl rfl rfl rfl rfl rfl<|BS 26 a kI161 (by kernel_rfl) rfl rfl rfl rfl rfl rfl<|AG 27 a kI161 (by kernel_rfl) rfl (fun _ _=>A7 rfl rfl rfl) rfl<|AG 28 a kI161 (by kernel_rfl) rfl (fun _ _=>Ae rfl) rfl<|BS 29 a kI161 (by kernel_rfl) rfl rfl rfl rfl rfl rfl ?_;refine BS 30 a kI161 (by kernel_rfl) rfl rfl rfl rfl rfl rfl<|AG 31 a kI161 (by kernel_rfl) rfl (fun _ _=>A7 rfl rfl rfl) rfl<|AG 32 a kI161 (by kernel_rfl) rfl (fun _ _=>Ae rfl) rfl<|Dz (by kernel_rfl) ?_
     refine A9 false (.cons rfl (Sub.nil _)) ⟨o,((aj.mono c).mono b),((ak.mono c).mono b),((al.mono c).mono b),(((ag.mono d).mono c).mono b),(((ah.mono d).mono c).mono b),(((ai.mono d).mono c).mono b),(((((y.mono e).mono g).mono d).mono c).mono b),(((((aa.mono e).mono g).mono d).mono c).mono b),(((((ab.mono e).mono g).mono d).mono c).mono b),((((((ad.mono j).mono e).mono g).mono d).mono c).mono b),((((((ae.mono j).mono e).mono g).mono d).mono c).mono b),((((((af.mono j).mono e).mono g).mono d).mono c).mono b),((((((aw.mono j).mono e).mono g).mono d).mono c).mono b),h⟩
    have h:=Bw au h;refine BS 13 a kI161 (by kernel_rfl) rfl rfl rfl rfl au rfl<|BS 14 a kI161 (by kernel_rfl) rfl rfl rfl rfl au rfl<|BS 15 a kI161 (by kernel_rfl) rfl rfl rfl rfl au rfl<|AG 16 a kI161 (by kernel_rfl) rfl (fun _ _=>A7 rfl au rfl) rfl<|AG 17 a kI161 (by kernel_rfl) rfl (fun _ _=>Ae rfl) rfl<|BS 18 a kI161 (by kernel_rfl) rfl rfl rfl rfl rfl rfl<|BS 19 a kI161 (by kernel_rfl) rfl rfl rfl rfl rfl rfl<|BS 20 a kI161 (by kernel_rfl) rfl rfl rfl rfl rfl rfl<|BS 21 a kI161 (by kernel_rfl) rfl rfl rfl rfl rfl rfl<|AG 22 a kI161 (by kernel_rfl) rfl (fun _ _=>A7 rfl rfl rfl) rfl<|AG 23 a kI161 (by kernel_rfl) rfl (fun _ _=>Ae rfl) rfl<|BS 24 a kI161 (by kernel_rfl) rfl rfl rfl rfl rfl rfl ?_;refine BS 25 a kI161 (by kernel_rfl) rfl rfl rfl rfl rfl rfl<|BS 26 a kI161 (by kernel_rfl) rfl rfl rfl rfl rfl rfl<|AG 27 a kI161 (by kernel_rfl) rfl (fun _ _=>A7 rfl rfl rfl) rfl<|AG 28 a kI161 (by kernel_rfl) rfl (fun _ _=>Ae rfl) rfl<|BS 29 a kI161 (by kernel_rfl) rfl rfl rfl rfl rfl rfl<|BS 30 a kI161 (by kernel_rfl) rfl rfl rfl rfl rfl rfl ?_
    refine AG 31 a kI161 (by kernel_rfl) rfl (fun _ _=>A7 rfl rfl rfl) rfl<|AG 32 a kI161 (by kernel_rfl) rfl (fun _ _=>Ae rfl) rfl<|Dz (by kernel_rfl)<|A9 false (.cons rfl (Sub.nil _)) ⟨o,((aj.mono c).mono b),((ak.mono c).mono b),((al.mono c).mono b),(((ag.mono d).mono c).mono b),(((ah.mono d).mono c).mono b),(((ai.mono d).mono c).mono b),(((((y.mono e).mono g).mono d).mono c).mono b),(((((aa.mono e).mono g).mono d).mono c).mono b),(((((ab.mono e).mono g).mono d).mono c).mono b),((((((ad.mono j).mono e).mono g).mono d).mono c).mono b),((((((ae.mono j).mono e).mono g).mono d).mono c).mono b),((((((af.mono j).mono e).mono g).mono d).mono c).mono b),((((((aw.mono j).mono e).mono g).mono d).mono c).mono b),h⟩
   have h:=Bw ar h;refine BS 8 a kI154 (by kernel_rfl) rfl rfl rfl rfl ar rfl<|BS 9 a kI154 (by kernel_rfl) rfl rfl rfl rfl ar rfl<|BS 10 a kI154 (by kernel_rfl) rfl rfl rfl rfl ar rfl<|AG 11 a kI154 (by kernel_rfl) rfl (fun _ _=>A7 rfl ar rfl) rfl<|AG 12 a kI154 (by kernel_rfl) rfl (fun _ _=>Ae rfl) rfl<|BS 13 a kI154 (by kernel_rfl) rfl rfl rfl rfl rfl rfl<|BS 14 a kI154 (by kernel_rfl) rfl rfl rfl rfl rfl rfl<|BS 15 a kI154 (by kernel_rfl) rfl rfl rfl rfl rfl rfl<|AG 16 a kI154 (by kernel_rfl) rfl (fun _ _=>A7 rfl rfl rfl) rfl<|AG 17 a kI154 (by kernel_rfl) rfl (fun _ _=>Ae rfl) rfl<|BS 18 a kI154 (by kernel_rfl) rfl rfl rfl rfl rfl rfl<|BS 19 a kI154 (by kernel_rfl) rfl rfl rfl rfl rfl rfl ?_;refine BS 20 a kI154 (by kernel_rfl) rfl rfl rfl rfl rfl rfl<|BS 21 a kI154 (by kernel_rfl) rfl rfl rfl rfl rfl rfl<|AG 22 a kI154 (by kernel_rfl) rfl (fun _ _=>A7 rfl rfl rfl) rfl<|AG 23 a kI154 (by kernel_rfl) rfl (fun _ _=>Ae rfl) rfl<|BS 24 a kI154 (by kernel_rfl) rfl rfl rfl rfl rfl rfl<|BS 25 a kI154 (by kernel_rfl) rfl rfl rfl rfl rfl rfl<|BS 26 a kI154 (by kernel_rfl) rfl rfl rfl rfl rfl rfl ?_
   refine AG 27 a kI154 (by kernel_rfl) rfl (fun _ _=>A7 rfl rfl rfl) rfl<|AG 28 a kI154 (by kernel_rfl) rfl (fun _ _=>Ae rfl) rfl<|BS 29 a kI154 (by kernel_rfl) rfl rfl rfl rfl rfl rfl<|BS 30 a kI154 (by kernel_rfl) rfl rfl rfl rfl rfl rfl<|AG 31 a kI154 (by kernel_rfl) rfl (fun _ _=>A7 rfl rfl rfl) rfl<|AG 32 a kI154 (by kernel_rfl) rfl (fun _ _=>Ae rfl) rfl<|Dz (by kernel_rfl)<|A9 false (.cons rfl (Sub.nil _)) ⟨q,((aj.mono c).mono b),((ak.mono c).mono b),((al.mono c).mono b),(((ag.mono d).mono c).mono b),(((ah.mono d).mono c).mono b),(((ai.mono d).mono c).mono b),(((((y.mono e).mono g).mono d).mono c).mono b),(((((aa.mono e).mono g).mono d).mono c).mono b),(((((ab.mono e).mono g).mono d).mono c).mono b),((((((ad.mono j).mono e).mono g).mono d).mono c).mono b),((((((ae.mono j).mono e).mono g).mono d).mono c).mono b),((((((af.mono j).mono e).mono g).mono d).mono c).mono b),((((((aw.mono j).mono e).mono g).mono d).mono c).mono b),h⟩
  have h:=A2 (of_decide_eq_false aq) h;refine BS 3 a kI149 (by kernel_rfl) rfl rfl rfl rfl aq rfl<|BS 4 a kI149 (by kernel_rfl) rfl rfl rfl rfl aq rfl<|BS 5 a kI149 (by kernel_rfl) rfl rfl rfl rfl aq rfl<|AG 6 a kI149 (by kernel_rfl) rfl (fun _ _=>A7 rfl aq rfl) rfl<|AG 7 a kI149 (by kernel_rfl) rfl (fun _ _=>Ae rfl) rfl<|BS 8 a kI149 (by kernel_rfl) rfl rfl rfl rfl rfl rfl<|BS 9 a kI149 (by kernel_rfl) rfl rfl rfl rfl rfl rfl<|BS 10 a kI149 (by kernel_rfl) rfl rfl rfl rfl rfl rfl<|AG 11 a kI149 (by kernel_rfl) rfl (fun _ _=>A7 rfl rfl rfl) rfl<|AG 12 a kI149 (by kernel_rfl) rfl (fun _ _=>Ae rfl) rfl<|BS 13 a kI149 (by kernel_rfl) rfl rfl rfl rfl rfl rfl<|BS 14 a kI149 (by kernel_rfl) rfl rfl rfl rfl rfl rfl ?_;refine BS 15 a kI149 (by kernel_rfl) rfl rfl rfl rfl rfl rfl<|AG 16 a kI149 (by kernel_rfl) rfl (fun _ _=>A7 rfl rfl rfl) rfl<|AG 17 a kI149 (by kernel_rfl) rfl (fun _ _=>Ae rfl) rfl<|BS 18 a kI149 (by kernel_rfl) rfl rfl rfl rfl rfl rfl<|BS 19 a kI149 (by kernel_rfl) rfl rfl rfl rfl rfl rfl<|BS 20 a kI149 (by kernel_rfl) rfl rfl rfl rfl rfl rfl ?_
  refine BS 21 a kI149 (by kernel_rfl) rfl rfl rfl rfl rfl rfl<|AG 22 a kI149 (by kernel_rfl) rfl (fun _ _=>A7 rfl rfl rfl) rfl<|AG 23 a kI149 (by kernel_rfl) rfl (fun _ _=>Ae rfl) rfl<|BS 24 a kI149 (by kernel_rfl) rfl rfl rfl rfl rfl rfl<|BS 25 a kI149 (by kernel_rfl) rfl rfl rfl rfl rfl rfl<|BS 26 a kI149 (by kernel_rfl) rfl rfl rfl rfl rfl rfl<|AG 27 a kI149 (by kernel_rfl) rfl (fun _ _=>A7 rfl rfl rfl) rfl<|AG 28 a kI149 (by kernel_rfl) rfl (fun _ _=>Ae rfl) rfl<|BS 29 a kI149 (by kernel_rfl) rfl rfl rfl rfl rfl rfl<|BS 30 a kI149 (by kernel_rfl) rfl rfl rfl rfl rfl rfl<|AG 31 a kI149 (by kernel_rfl) rfl (fun _ _=>A7 rfl rfl rfl) rfl<|AG 32 a kI149 (by kernel_rfl) rfl (fun _ _=>Ae rfl) rfl ?_;refine Dz (by kernel_rfl) ?_;have ad:=ad.mono (Ab hH (az.trans (a2.trans (a3.trans a4))));have ae:=ae.mono (Ab hH (az.trans (a2.trans (a3.trans a4))));have af:=af.mono (Ab hH (az.trans (a2.trans (a3.trans a4))));have g:=g.trans (Ab hH (dk.trans (dl.trans (dm.trans (dn.trans (bh.trans (bi.trans (bj.trans bk))))))))
  have d:=d.trans (Ab hH (dp.trans (bl.trans (bm.trans (bn.trans bo)))));have c:=c.trans (Ab hH (dq.trans (dr.trans (ds.trans cz))));refine A9 false (.cons rfl (Sub.nil _)) ⟨m,((aj.mono c).mono b),((ak.mono c).mono b),((al.mono c).mono b),(((ag.mono d).mono c).mono b),(((ah.mono d).mono c).mono b),(((ai.mono d).mono c).mono b),(((((y.mono e).mono g).mono d).mono c).mono b),(((((aa.mono e).mono g).mono d).mono c).mono b),(((((ab.mono e).mono g).mono d).mono c).mono b),((((((ad.mono j).mono e).mono g).mono d).mono c).mono b),((((((ae.mono j).mono e).mono g).mono d).mono c).mono b),((((((af.mono j).mono e).mono g).mono d).mono c).mono b),((((((aw.mono j).mono e).mono g).mono d).mono c).mono b),h⟩
 rintro bp it ⟨fw,hq,hr,hs,ht,hu,hv,hw,hx,hy,hz,hm,hn,ho,h⟩;refine Az ?_;obtain rfl:=Option.some.inj h;refine An rfl rfl ?_;exact⟨fw.ext,rfl⟩
end Go.Proofs.YtekmbcbgknmhiaaGreatDoor
end
noncomputable section
namespace Go.L
def Ap{α:Type}(m m':Option α):Prop:=∀ r,m=some r→m'=some r
theorem Ym{α:Type}(m:Option α):Ap m m:=fun _ h=>h
theorem apB{α β:Type}{m m':Option α}{f f':α→Option β}(h:Ap m m')(k:∀ x,Ap (f x) (f' x)):Ap (Option.bind m f) (Option.bind m' f'):=fun r e=>by
 obtain⟨x,a,h2⟩:=bind_some e;rw [h x a,Option.bind_some];exact k x r h2
theorem apC{α:Type}{p:Prop}[Decidable p]{m m':Option α}(h:Ap m m'):Ap (Go.L.AY p m) (Go.L.AY p m'):=fun r e=>by
 obtain⟨a,h2⟩:=Ac e;rw [Aw a];exact h r h2
theorem apI{α:Type}{p:Prop}[Decidable p]{a b a' b':Option α}(h:Ap a a')(k:Ap b b'):Ap (if p then a else b) (if p then a' else b'):=fun r e=>by
 by_cases hp:p
 ·rw [if_pos hp] at e ⊢;exact h r e
 ·rw [if_neg hp] at e ⊢;exact k r e
theorem apM{α β:Type}{f:α→β}{m m':Option α}(h:Ap m m'):Ap (Option.map f m) (Option.map f m'):=fun r e=>by
 cases m with
 | none=>cases e
 | some x=>rw [h x rfl];exact e
theorem apO{α β:Type}{x:Option α}{ex ex':Option β}{k k':α→Option β}(h:Ap ex ex')(hk:∀ y,Ap (k y) (k' y)):Ap (Go.L.Qc x ex k) (Go.L.Qc x ex' k'):=by
 cases x with
 | none=>exact h
 | some y=>exact hk y
theorem Ap.FM{σ ρ:Type}{b b':σ→Option (σ ⊕ ρ)}(h:∀ s,Ap (b s) (b' s)):∀ (n:Nat) (s:σ),Ap (FM b n s) (FM b' n s)
 | 0,_=>fun _ e=>by cases e
 | n+1,s=>fun r e=>by
  obtain⟨m,x,hm,a,h2⟩:=Ba e;obtain rfl:n=m:=by omega
  rw [Go.L.FM,h s x a]
  cases x with
  | inl s'=>exact Ap.FM h n s' r h2
  | inr y=>exact congrArg some h2
theorem Ap.run{σ ρ:Type}{b b':σ→Option (σ ⊕ ρ)}(h:∀ s,Ap (b s) (b' s))(n:Nat)(s:σ):Ap (Go.L.FM b n s) (Go.L.run b' s):=fun r e=>S7 (Ap.FM h n s r e)
class Mi {α:Type} (m:Option α) where
 c:Option α
 h:Ap c m
noncomputable instance {α:Type} (x:α):Mi (some x):=⟨some x,Ym _⟩
noncomputable instance {α:Type}:Mi (none:Option α):=⟨none,Ym _⟩
noncomputable instance iB {α β:Type} (m:Option α) (f:α→Option β) [i:Mi m] [j:∀ x,Mi (f x)]:Mi (Option.bind m f):=⟨Option.bind i.c fun x=>(j x).c,apB i.h fun x=>(j x).h⟩
noncomputable instance iC {α:Type} (p:Prop) [Decidable p] (m:Option α) [i:Mi m]:Mi (Go.L.AY p m):=⟨Go.L.AY p i.c,apC i.h⟩
noncomputable instance iI {α:Type} (p:Prop) [Decidable p] (a b:Option α) [i:Mi a] [j:Mi b]:Mi (if p then a else b):=⟨if p then i.c else j.c,apI i.h j.h⟩
noncomputable instance {α β:Type} (f:α→β) (m:Option α) [i:Mi m]:Mi (Option.map f m):=⟨Option.map f i.c,apM i.h⟩
noncomputable instance {α β:Type} (x:Option α) (ex:Option β) (k:α→Option β) [i:Mi ex] [j:∀ y,Mi (k y)]:Mi (Go.L.Qc x ex k):=⟨Go.L.Qc x i.c fun y=>(j y).c,apO i.h fun y=>(j y).h⟩
noncomputable instance {σ ρ:Type} (b:σ→Option (σ ⊕ ρ)) (s:σ) [i:∀ s,Mi (b s)]:Mi (Go.L.run b s):=⟨Go.L.FM (fun s=>(i s).c) 300 s,Ap.run (fun s=>(i s).h) 300 s⟩
end Go.L
namespace Go.L
def Wr{α:Type}(le:α→α→Bool)(a:α):List α→List α
 | []=>[a]
 | b::l=>if le a b then a::b::l else b::Wr le a l
def ZF{α:Type}(le:α→α→Bool):List α→List α
 | []=>[]
 | a::l=>Wr le a (ZF le l)
section
variable {α:Type} {le:α→α→Bool}
theorem PD(a:α):∀ l:List α,(Wr le a l).Perm (a::l)
 | []=>.refl _
 | b::l=>by
  unfold Wr
  split
  ·exact .refl _
  ·exact((PD a l).cons b).trans (.swap a b l)
theorem Uj:∀ l:List α,(ZF le l).Perm l
 | []=>.refl _
 | a::l=>(PD a _).trans ((Uj l).cons a)
theorem PY(htr:∀ a b c,le a b=true→le b c=true→le a c=true)(hto:∀ a b,le a b=true∨le b a=true)(a:α):∀ l:List α,l.Pairwise (fun x y=>le x y=true)→(Wr le a l).Pairwise fun x y=>le x y=true
 | [],_=>List.pairwise_singleton _ _
 | b::l,h=>by
  unfold Wr
  split
  ·rename_i d;refine .cons (fun x hx=>?_) h
   rcases List.mem_cons.1 hx with rfl | hx
   ·exact d
   ·exact htr _ _ _ d ((List.pairwise_cons.1 h).1 x hx)
  ·rename_i d;have h2:le b a=true:=by rcases hto a b with h | h;exact absurd h d;exact h
   refine .cons (fun x hx=>?_) (PY htr hto a l (List.pairwise_cons.1 h).2)
   rcases List.mem_cons.1 ((PD a l).mem_iff.1 hx) with rfl | hx
   ·exact h2
   ·exact(List.pairwise_cons.1 h).1 x hx
theorem R3(htr:∀ a b c,le a b=true→le b c=true→le a c=true)(hto:∀ a b,le a b=true∨le b a=true):∀ l:List α,(ZF le l).Pairwise fun x y=>le x y=true
 | []=>.nil
 | a::l=>PY htr hto a _ (R3 htr hto l)
theorem Sy(has:∀ a b,le a b=true→le b a=true→a=b):∀ {l m:List α},l.Perm m→l.Pairwise (fun x y=>le x y=true)→m.Pairwise (fun x y=>le x y=true)→l=m
 | [],m,hp,_,_=>hp.nil_eq
 | a::l,m,hp,hl,hm=>by
  cases m with
  | nil=>exact absurd hp.symm.nil_eq (by simp)
  | cons b m=>
   obtain⟨d,e⟩:=List.pairwise_cons.1 hl;obtain⟨f,g⟩:=List.pairwise_cons.1 hm
   have hab:a=b:=by
    rcases List.mem_cons.1 (hp.mem_iff.1 (.head _)) with c | c
    ·exact c
    ·rcases List.mem_cons.1 (hp.mem_iff.2 (.head _)) with h2 | h2
     ·exact h2.symm
     ·exact has a b (d b h2) (f a c)
   subst hab;rw [Sy has hp.cons_inv e g]
theorem Tq(htr:∀ a b c,le a b=true→le b c=true→le a c=true)(hto:∀ a b,le a b=true∨le b a=true)(has:∀ a b,le a b=true→le b a=true→a=b)(l:List α):ZF le l=l.mergeSort le:=
 Sy has ((Uj l).trans (List.mergeSort_perm l _).symm) (R3 htr hto l) (List.pairwise_mergeSort htr (fun a b=>by simpa using hto a b) l)
end
def isS(l:List (List UInt8)):List (List UInt8):=ZF (fun x y=>decide (x≤y)) l
def isI(l:List Int):List Int:=ZF (fun x y=>decide (x≤y)) l
def isL(l:List Lf):List Lf:=ZF (fun x y=>!(Go.Proofs.ltOf OS) y x) l
theorem Ya(l:List Int):isI l=Go.E.Nt l:=Tq (fun a b c d h2=>by simp only [decide_eq_true_eq] at *;omega) (fun a b=>by simp only [decide_eq_true_eq];omega) (fun a b d h2=>by simp only [decide_eq_true_eq] at *;omega) l
theorem Yb(l:List (List UInt8)):isS l=Go.E.Abe l:=Tq (fun a b c d h2=>by simp only [decide_eq_true_eq] at *;exact List.le_trans d h2) (fun a b=>by simp only [decide_eq_true_eq];exact List.le_total a b) (fun a b d h2=>by simp only [decide_eq_true_eq] at *;exact List.le_antisymm d h2) l
theorem Aap(l:List Lf):isL l=OT l:=by
 have hlt:∀ a b,(!(Go.Proofs.ltOf OS) b a)=true↔¬ OS b a<0:=fun a b=>by simp [Go.Proofs.ltOf]
 refine Tq (fun a b c e h2=>?_) (fun a b=>?_) (fun a b e h2=>?_) l
 ·rw [hlt] at *;intro h3;have s1:=PV.swap a b
  rcases Int.lt_trichotomy (OS a b) 0 with d | d | d
  ·exact h2 (PV.trans c a b h3 d)
  ·rw [PV.zero a b d] at h3;exact h2 h3
  ·omega
 ·rw [hlt,hlt];have s1:=PV.swap a b;omega
 ·exact PV.parts a b (by simpa using h2) (by simpa using e)
end Go.L
namespace Go.Proofs.YtekmbcbgknmhiaaGreatDoor
open Go Go.E Go.L
def R4(l:List (Lf×List Int)):Option (List Lf):=Go.L.AY (Go.E.JE 48 l.length) (some (isL (l.map Prod.fst)))
theorem Uk(l:List (Lf×List Int)):R4 l=OU l:=by unfold R4 OU;rw [Aap]
noncomputable instance (l:List (Lf×List Int)):Mi (OU l):=⟨R4 l,by rw [Uk];exact Ym _⟩
end Go.Proofs.YtekmbcbgknmhiaaGreatDoor
end
noncomputable section
namespace Go.L
def Yc(a:List UInt8):List (Fin (a.length+1)):=ZF (fun x y=>!(Go.Proofs.ltOf (Lb a)) y x) (On a.length)
def Yd(a:List UInt8):List Int:=(Yc a).map fun x=>(x.val:Int)
theorem Ul(a:List UInt8):Yd a=J8 a:=by
 have h:Yc a=XL a:=by
  have hlt:∀ x y,(!(Go.Proofs.ltOf (Lb a)) y x)=true↔¬ Lb a y x<0:=fun x y=>by simp [Go.Proofs.ltOf]
  refine Tq (fun x y z c h2=>?_) (fun x y=>?_) (fun x y c h2=>?_) _
  ·rw [hlt] at *;intro h3;unfold Lb at *;have s1:=KV (a.drop x.val) (a.drop y.val)
   rcases Int.lt_trichotomy (Lib.compareBytes (a.drop x.val) (a.drop y.val)) 0 with b | b | b
   ·exact h2 (Ma _ _ _ h3 b)
   ·rw [Nu _ _ b] at h3;exact h2 h3
   ·omega
  ·rw [hlt,hlt];unfold Lb;have s1:=KV (a.drop x.val) (a.drop y.val);omega
  ·exact OX a x y (by simpa using h2) (by simpa using c)
 unfold Yd J8;rw [h]
end Go.L
namespace Go.Proofs.YtekmbcbgknmhiaaGreatDoor
open Go Go.E Go.RowKit
def N7{β:Type}(l:List (List UInt8×β)):Option (List (List UInt8)):=
 match l.map Prod.fst with
 | []=>some []
 | [a]=>if a.length<1000 then some [a] else none
 | [a,b]=>if a.length<1000∧b.length<1000∧a≠b then some (if leB a b then[a,b] else[b,a]) else none
 | _=>none
theorem RS{β:Type}(l:List (List UInt8×β)):Go.L.Ap (N7 l) (KX l):=by
 intro r h;have hm:(1000:Nat)≤maxLen:=by decide
 have hl:(l.map Prod.fst).length=l.length:=List.length_map ..
 suffices key:Q6 l∧some ((l.map Prod.fst).mergeSort leB)=some r by
  unfold KX;rw [Go.L.Aw key.1];exact key.2
 unfold Q6;rw [← hl];unfold N7 at h;generalize l.map Prod.fst=k at *
 match k,h with
 | [],h=>
  cases h
  exact⟨⟨List.nodup_nil,fun x hx=>(by cases hx),by decide⟩,by simp⟩
 | [a],h=>
  simp only at h
  split at h
  ·rename_i ha
   cases h
   exact⟨⟨by simp,fun x hx=>(by rw [List.mem_singleton.1 hx];omega),by simp⟩,by simp⟩
  ·cases h
 | [a,b],h=>
  simp only at h
  split at h
  ·rename_i ha;obtain⟨c,h2,h3⟩:=ha
   cases h
   refine⟨⟨by simp [h3],fun x hx=>?_,by simp⟩,?_⟩
   ·rcases List.mem_cons.1 hx with rfl | hx
    ·omega
    ·rw [List.mem_singleton.1 hx];omega
   ·simp [List.mergeSort,List.merge,List.MergeSort.Internal.splitInTwo]
  ·cases h
 | _::_::_::_,h=>cases h
instance {β:Type} (l:List (List UInt8×β)):Go.L.Mi (KX l):=⟨N7 l,RS l⟩
end Go.Proofs.YtekmbcbgknmhiaaGreatDoor
end
noncomputable section
namespace Go.Proofs.YtekmbcbgknmhiaaGreatDoor
open Go Go.E Go.RowKit Go.L
noncomputable section
instance (a b c d):Mi (NN a b c d):=⟨_,Ym _⟩
instance (a b):Mi (PT a b):=⟨_,Ym _⟩
instance (a b):Mi (PU a b):=⟨_,Ym _⟩
instance (a):Mi (Ro a):=⟨_,Ym _⟩
instance (a):Mi (VT a):=⟨_,Ym _⟩
instance (a):Mi (OO a):=⟨_,Ym _⟩
instance (a):Mi (XC a):=⟨_,Ym _⟩
instance (a0):Mi (NK a0):=by delta NK;infer_instance
instance (a0) (a1):Mi (D4 a0 a1):=by delta D4;infer_instance
instance (a0) (a1):Mi (Hn a0 a1):=by delta Hn;infer_instance
instance (a) (b) (c) (d) (e) (f) (g):Mi (BU a b c d e f g):=by delta BU;infer_instance
instance (a0) (s):Mi (Bj a0 s):=by obtain⟨b,c,d,e,f,g,h,a⟩:=s;delta Bj;dsimp only;infer_instance
instance (a0) (s):Mi (BV a0 s):=by delta BV;infer_instance
instance (a0) (a1_c0):Mi (BD a0 a1_c0):=by delta BD;infer_instance
instance (a0) (a1_c0):Mi (AU a0 a1_c0):=by delta AU;infer_instance
instance (a0) (d) (e) (f) (g) (a) (b) (c):Mi (BI a0 d e f g a b c):=by delta BI;repeat' first | (show Mi _;infer_instance) | refine @iB _ _ _ _ ?_ (fun _=>?_) | refine @iC _ _ _ _ ?_ | refine @iI _ _ _ _ _ ?_ ?_
instance (a0):Mi (Hx a0):=by delta Hx;repeat' first | (show Mi _;infer_instance) | refine @iB _ _ _ _ ?_ (fun _=>?_) | refine @iC _ _ _ _ ?_ | refine @iI _ _ _ _ _ ?_ ?_
instance (a0) (a1):Mi (Kf a0 a1):=by delta Kf;infer_instance
instance (a0):Mi (Ij a0):=by delta Ij;repeat' first | (show Mi _;infer_instance) | refine @iB _ _ _ _ ?_ (fun _=>?_) | refine @iC _ _ _ _ ?_ | refine @iI _ _ _ _ _ ?_ ?_
instance (b) (c) (d) (a):Mi (Ft b c d a):=by delta Ft;infer_instance
instance (a1) (b) (a) (s):Mi (BX a1 b a s):=by obtain⟨d,c⟩:=s;delta BX;dsimp only;infer_instance
instance (a1) (b) (a) (s):Mi (JM a1 b a s):=by delta JM;infer_instance
instance (a1) (s):Mi (BY a1 s):=by obtain⟨b,a⟩:=s;delta BY;dsimp only;infer_instance
instance (a1) (s):Mi (JN a1 s):=by delta JN;infer_instance
instance (a0) (a1):Mi (IE a0 a1):=by delta IE;infer_instance
instance (l):Mi (LY l):=by delta LY;infer_instance
instance (a0):Mi (Ik a0):=by delta Ik;infer_instance
instance (a0):Mi (HQ a0):=by delta HQ;infer_instance
instance (a0) (a1):Mi (Io a0 a1):=by delta Io;infer_instance
instance (a0) (a1):Mi (strings_Split a0 a1):=by delta strings_Split;infer_instance
instance (a0):Mi (Ip a0):=by delta Ip;infer_instance
instance (a0):Mi (Jd a0):=by delta Jd;infer_instance
instance:Mi (IM):=by delta IM;infer_instance
instance (b) (s):Mi (CD b s):=by obtain⟨c,a⟩:=s;delta CD;dsimp only;repeat' first | (show Mi _;infer_instance) | refine @iB _ _ _ _ ?_ (fun _=>?_) | refine @iC _ _ _ _ ?_ | refine @iI _ _ _ _ _ ?_ ?_
instance (a) (s):Mi (Kn a s):=by delta Kn;infer_instance
instance (a0):Mi (Iq a0):=by delta Iq;infer_instance
instance (a0) (a):Mi (DD a0 a):=by delta DD;infer_instance
instance (a0):Mi (DE a0):=by delta DE;infer_instance
instance (a0) (s):Mi (C3 a0 s):=by delta C3;infer_instance
instance (a0) (s):Mi (Gu a0 s):=by delta Gu;infer_instance
instance (a0):Mi (Fu a0):=by delta Fu;infer_instance
instance (a):Mi (FZ a):=by delta FZ;infer_instance
instance (a0) (a2) (self) [∀ c d e,Mi (self c d e)] (s):Mi (CV a0 a2 self s):=by obtain⟨b,a⟩:=s;delta CV;dsimp only;infer_instance
instance (a0) (a2) (self) [∀ a b c,Mi (self a b c)] (s):Mi (HX a0 a2 self s):=by delta HX;infer_instance
instance (self) [∀ a b c,Mi (self a b c)] (a0) (a1) (a2):Mi (D5 self a0 a1 a2):=by delta D5;infer_instance
instance PE:∀ (n:Nat) (y0) (y1) (y2),Mi (D6 n y0 y1 y2)
 | 0,_,_,_=>⟨none,fun _ h=>by cases h⟩
 | n+1,y0,y1,y2=>by
  haveI:=PE n
  show Mi (D5 (D6 n) y0 y1 y2)
  infer_instance
instance (y0) (y1) (y2):Mi (J7 y0 y1 y2):=by delta J7;infer_instance
instance (a):Mi (GD a):=by delta GD;infer_instance
instance (a0) (s):Mi (CP a0 s):=by obtain⟨b,a⟩:=s;delta CP;dsimp only;repeat' first | (show Mi _;infer_instance) | refine @iB _ _ _ _ ?_ (fun _=>?_) | refine @iC _ _ _ _ ?_ | refine @iI _ _ _ _ _ ?_ ?_
instance (a0) (s):Mi (Iw a0 s):=by delta Iw;infer_instance
instance (a0):Mi (Gj a0):=by delta Gj;infer_instance
instance (_self1) (self2) [∀ a b c,Mi (self2 a b c)] (a0):Mi (DT _self1 self2 a0):=by delta DT;repeat' first | (show Mi _;infer_instance) | refine @iB _ _ _ _ ?_ (fun _=>?_) | refine @iC _ _ _ _ ?_ | refine @iI _ _ _ _ _ ?_ ?_
instance:Mi (Dg):=by delta Dg;infer_instance
instance (a0) (a1) (s):Mi (BH a0 a1 s):=by delta BH;infer_instance
instance (a0) (a1) (s):Mi (Ez a0 a1 s):=by delta Ez;infer_instance
instance (a0) (a1):Mi (El a0 a1):=by delta El;infer_instance
instance (a0) (a1):Mi (Cg a0 a1):=by delta Cg;infer_instance
instance (c) (a) (b):Mi (Dh c a b):=by delta Dh;infer_instance
instance (a1) (a):Mi (Et a1 a):=by delta Et;infer_instance
instance (a0) (a1) (a2) (self1) [∀ b,Mi (self1 b)] (s):Mi (Cc a0 a1 a2 self1 s):=by obtain⟨c,a⟩:=s;delta Cc;dsimp only;infer_instance
instance (a0) (a1) (a2) (self1) [∀ a,Mi (self1 a)] (s):Mi (Ga a0 a1 a2 self1 s):=by delta Ga;infer_instance
instance (self1) [∀ a,Mi (self1 a)] (_self2) (a0) (a1) (a2):Mi (D8 self1 _self2 a0 a1 a2):=by delta D8;infer_instance
def Gh:(n:Nat)→(∀ a,Mi ((B8 n).1 a))×(∀ y0 y1 y2,Mi ((B8 n).2 y0 y1 y2))
 | 0=>(fun _=>⟨none,fun _ h=>(by cases h)⟩,fun _ _ _=>⟨none,fun _ h=>(by cases h)⟩)
 | n+1=>(fun a=>by
  haveI:=(Gh n).1
  haveI:=(Gh n).2
  show Mi (DT ((B8 n).1) ((B8 n).2) a)
  infer_instance,fun y0 y1 y2=>by
  haveI:=(Gh n).1
  haveI:=(Gh n).2
  show Mi (D8 ((B8 n).1) ((B8 n).2) y0 y1 y2)
  infer_instance)
instance (y0):Mi (L4 y0):=(Gh 1000).1 y0
instance (a0):Mi (EX a0):=by delta EX;infer_instance
instance (a0) (a1):Mi (CG a0 a1):=by delta CG;infer_instance
instance (a0) (a1):Mi (CH a0 a1):=by delta CH;infer_instance
instance (a0) (a1):Mi (HH a0 a1):=by delta HH;infer_instance
instance (a0) (a1):Mi (Bx a0 a1):=by delta Bx;infer_instance
instance (a1) (y8) (a) (b) (c):Mi (DA a1 y8 a b c):=by delta DA;infer_instance
instance (a1) (a2) (self) [∀ a,Mi (self a)] (y8) (s):Mi (Dn a1 a2 self y8 s):=by obtain⟨b,c,d⟩:=s;delta Dn;dsimp only;infer_instance
instance (a1) (a2) (self) [∀ a,Mi (self a)] (y8) (s):Mi (F9 a1 a2 self y8 s):=by delta F9;infer_instance
instance (self) [∀ a,Mi (self a)] (a0) (a1) (a2):Mi (E9 self a0 a1 a2):=by delta E9;infer_instance
instance (self) [∀ a,Mi (self a)] (a0_0):Mi (DR self a0_0):=by delta DR;infer_instance
instance (a1) (y8) (a) (b) (c):Mi (EA a1 y8 a b c):=by delta EA;infer_instance
instance (a1) (a2) (self) [∀ a,Mi (self a)] (y8) (s):Mi (Ef a1 a2 self y8 s):=by obtain⟨b,c,d⟩:=s;delta Ef;dsimp only;infer_instance
instance (a1) (a2) (self) [∀ a,Mi (self a)] (y8) (s):Mi (GH a1 a2 self y8 s):=by delta GH;infer_instance
instance (self) [∀ a,Mi (self a)] (a0) (a1) (a2):Mi (Gf self a0 a1 a2):=by delta Gf;infer_instance
instance (self) [∀ a,Mi (self a)] (a0):Mi (EN self a0):=by delta EN;infer_instance
instance (a0) (a1):Mi (C5 a0 a1):=by delta C5;infer_instance
instance:Mi (FT):=by delta FT;infer_instance
instance (a0) (s):Mi (Ca a0 s):=by delta Ca;infer_instance
instance (a0) (s):Mi (Eo a0 s):=by delta Eo;infer_instance
instance (a0):Mi (BZ a0):=by delta BZ;infer_instance
instance (a1) (a):Mi (FU a1 a):=by delta FU;infer_instance
instance (a0) (a1) (a) (s):Mi (FC a0 a1 a s):=by delta FC;repeat' first | (show Mi _;infer_instance) | refine @iB _ _ _ _ ?_ (fun _=>?_) | refine @iC _ _ _ _ ?_ | refine @iI _ _ _ _ _ ?_ ?_
instance (a0) (a1) (a) (s):Mi (HS a0 a1 a s):=by delta HS;infer_instance
instance (a0) (a1) (a):Mi (Ep a0 a1 a):=by delta Ep;infer_instance
instance:Mi (FV):=by delta FV;infer_instance
instance (a0) (a1) (s):Mi (DP a0 a1 s):=by delta DP;repeat' first | (show Mi _;infer_instance) | refine @iB _ _ _ _ ?_ (fun _=>?_) | refine @iC _ _ _ _ ?_ | refine @iI _ _ _ _ _ ?_ ?_
instance (a0) (a1) (s):Mi (HT a0 a1 s):=by delta HT;infer_instance
instance (a0) (a1):Mi (CO a0 a1):=by delta CO;infer_instance
instance (a0) (a):Mi (EM a0 a):=by delta EM;infer_instance
instance:Mi (G0):=by delta G0;infer_instance
instance (a0) (a1) (s):Mi (Ge a0 a1 s):=by delta Ge;infer_instance
instance (a0) (a1) (s):Mi (I8 a0 a1 s):=by delta I8;infer_instance
instance (a0) (a1):Mi (G1 a0 a1):=by delta G1;infer_instance
instance (a0) (a1):Mi (strings_IndexAny a0 a1):=by delta strings_IndexAny;infer_instance
instance (s) (c):Mi (Pc s c):=by delta Pc;infer_instance
instance (a0) (a):Mi (DB a0 a):=by delta DB;infer_instance
instance (a0) (a1):Mi (CN a0 a1):=by delta CN;infer_instance
instance (b) (c) (d) (a):Mi (Dj b c d a):=by delta Dj;infer_instance
instance (a) (b) (c) (d):Mi (EC a b c d):=by delta EC;infer_instance
instance (a) (b):Mi (ED a b):=by delta ED;infer_instance
instance (a) (b):Mi (EE a b):=by delta EE;infer_instance
instance (a) (b) (c):Mi (EF a b c):=by delta EF;infer_instance
instance (s):Mi (Eg s):=by obtain⟨a,b,c⟩:=s;delta Eg;dsimp only;infer_instance
instance (s):Mi (GI s):=by delta GI;infer_instance
instance (a0):Mi (Ew a0):=by delta Ew;infer_instance
instance (a0) (a) (b):Mi (EG a0 a b):=by delta EG;infer_instance
instance (a0) (a):Mi (BR a0 a):=by delta BR;infer_instance
instance (a0) (s):Mi (Eh a0 s):=by delta Eh;repeat' first | (show Mi _;infer_instance) | refine @iB _ _ _ _ ?_ (fun _=>?_) | refine @iC _ _ _ _ ?_ | refine @iI _ _ _ _ _ ?_ ?_
instance (a0) (s):Mi (GJ a0 s):=by delta GJ;infer_instance
instance (a0):Mi (Dk a0):=by delta Dk;infer_instance
instance (a0):Mi (Hh a0):=by delta Hh;repeat' first | (show Mi _;infer_instance) | refine @iB _ _ _ _ ?_ (fun _=>?_) | refine @iC _ _ _ _ ?_ | refine @iI _ _ _ _ _ ?_ ?_
instance (self) [∀ a,Mi (self a)] (a0):Mi (DC self a0):=by delta DC;repeat' first | (show Mi _;infer_instance) | refine @iB _ _ _ _ ?_ (fun _=>?_) | refine @iC _ _ _ _ ?_ | refine @iI _ _ _ _ _ ?_ ?_
instance MS:∀ (n:Nat) (y0),Mi (DF n y0)
 | 0,_=>⟨none,fun _ h=>by cases h⟩
 | n+1,y0=>by
  haveI:=MS n
  show Mi (DC (DF n) y0)
  infer_instance
instance (y0):Mi (HI y0):=by delta HI;infer_instance
instance (_a0) (_a1):Mi (Hi _a0 _a1):=by delta Hi;infer_instance
instance (_a0) (_a1):Mi (FI _a0 _a1):=by delta FI;infer_instance
instance (a0) (a1):Mi (HJ a0 a1):=by delta HJ;infer_instance
instance (y22):Mi (IX y22):=by delta IX;infer_instance
instance (a0):Mi (JC a0):=by delta JC;repeat' first | (show Mi _;infer_instance) | refine @iB _ _ _ _ ?_ (fun _=>?_) | refine @iC _ _ _ _ ?_ | refine @iI _ _ _ _ _ ?_ ?_
instance (a0):Mi (Ke a0):=by delta Ke;infer_instance
def DY(a0:List UInt8)(a:List Int):Option ((List Int)):=
 Go.L.AY (a=Go.L.iota a0.length∧a0.length<4611686018427387904) (some ((Go.L.Yd a0)))
theorem Ob:@DY = @Ho:=by
 unfold DY Ho;simp only [Yb,Ya,Ul]
instance (a0) (a):Mi (DY a0 a):=by delta DY;infer_instance
instance (a0) (a):Mi (Ho a0 a):=⟨(inferInstance:Mi (DY a0 a)).c,by rw [← Ob];exact(inferInstance:Mi (DY a0 a)).h⟩
instance (a0) (s):Mi (Iz a0 s):=by obtain⟨b,a⟩:=s;delta Iz;dsimp only;infer_instance
instance (a0) (s):Mi (Kq a0 s):=by delta Kq;infer_instance
instance (a0):Mi (K9 a0):=by delta K9;infer_instance
instance (a0):Mi (KA a0):=by delta KA;infer_instance
instance (a1):Mi (Fg a1):=by delta Fg;infer_instance
instance (_a0) (a1):Mi (Gw _a0 a1):=by delta Gw;infer_instance
instance (a):Mi (Ed a):=by delta Ed;infer_instance
instance (a0) (s):Mi (DN a0 s):=by obtain⟨b,a⟩:=s;delta DN;dsimp only;infer_instance
instance (a0) (s):Mi (Gl a0 s):=by delta Gl;infer_instance
instance (a0) (a):Mi (Ee a0 a):=by delta Ee;infer_instance
instance (a0) (s):Mi (DO a0 s):=by obtain⟨b,a⟩:=s;delta DO;dsimp only;infer_instance
instance (a0) (s):Mi (Gm a0 s):=by delta Gm;infer_instance
instance (a0):Mi (FH a0):=by delta FH;infer_instance
instance (a) (c) (b):Mi (Fa a c b):=by delta Fa;infer_instance
instance (a0) (a) (s):Mi (E5 a0 a s):=by obtain⟨d,c,b⟩:=s;delta E5;dsimp only;infer_instance
instance (a0) (a) (s):Mi (Ha a0 a s):=by delta Ha;infer_instance
instance (c) (d) (a) (e) (b):Mi (Fb c d a e b):=by delta Fb;infer_instance
instance (a0) (d) (b) (c) (a):Mi (Fc a0 d b c a):=by delta Fc;infer_instance
instance (a0) (d) (a) (s):Mi (E6 a0 d a s):=by obtain⟨e,b,c⟩:=s;delta E6;dsimp only;infer_instance
instance (a0) (b) (a) (s):Mi (Hb a0 b a s):=by delta Hb;infer_instance
instance (a0) (b) (c) (a):Mi (Fe a0 b c a):=by delta Fe;infer_instance
instance (a0) (b) (c) (s):Mi (E7 a0 b c s):=by obtain⟨e,d,a⟩:=s;delta E7;dsimp only;infer_instance
instance (a0) (a) (b) (s):Mi (Hc a0 a b s):=by delta Hc;infer_instance
instance (a0) (a) (b) (c):Mi (Ff a0 a b c):=by delta Ff;infer_instance
instance (a0):Mi (Gv a0):=by delta Gv;repeat' first | (show Mi _;infer_instance) | refine @iB _ _ _ _ ?_ (fun _=>?_) | refine @iC _ _ _ _ ?_ | refine @iI _ _ _ _ _ ?_ ?_
instance (a):Mi (I0 a):=by delta I0;infer_instance
instance (a0) (a) (s):Mi (HD a0 a s):=by obtain⟨c,b⟩:=s;delta HD;dsimp only;repeat' first | (show Mi _;infer_instance) | refine @iB _ _ _ _ ?_ (fun _=>?_) | refine @iC _ _ _ _ ?_ | refine @iI _ _ _ _ _ ?_ ?_
instance (a0) (a) (s):Mi (JQ a0 a s):=by delta JQ;infer_instance
instance (a0):Mi (JY a0):=by delta JY;infer_instance
instance (a0) (a1):Mi (Ci a0 a1):=by delta Ci;infer_instance
instance (a0):Mi (HB a0):=by delta HB;infer_instance
instance:Mi (Gq):=by delta Gq;infer_instance
instance (a0) (s):Mi (FW a0 s):=by delta FW;infer_instance
instance (a0) (s):Mi (I6 a0 s):=by delta I6;infer_instance
instance (a0):Mi (Ir a0):=by delta Ir;infer_instance
instance (a0):Mi (Is a0):=by delta Is;infer_instance
instance:Mi (GS):=by delta GS;infer_instance
instance (a) (s):Mi (Gr a s):=by delta Gr;infer_instance
instance (a) (s):Mi (Je a s):=by delta Je;infer_instance
instance (_c83) (_c84) (_c85) (b) (c) (a):Mi (BN _c83 _c84 _c85 b c a):=by delta BN;infer_instance
instance (b) (c) (d) (e) (f) (a):Mi (F2 b c d e f a):=by delta F2;repeat' first | (show Mi _;infer_instance) | refine @iB _ _ _ _ ?_ (fun _=>?_) | refine @iC _ _ _ _ ?_ | refine @iI _ _ _ _ _ ?_ ?_
instance (b) (c) (d) (e) (f) (a):Mi (F3 b c d e f a):=by delta F3;infer_instance
instance (f) (b) (c) (d) (e) (a):Mi (F4 f b c d e a):=by delta F4;infer_instance
instance (a0):Mi (IN a0):=by delta IN;infer_instance
instance (a1):Mi (Gs a1):=by delta Gs;infer_instance
instance (a0) (a1) (s):Mi (FX a0 a1 s):=by delta FX;infer_instance
instance (a0) (a1) (s):Mi (I7 a0 a1 s):=by delta I7;infer_instance
instance (_self) (a0) (a1) (a2):Mi (G8 _self a0 a1 a2):=by delta G8;infer_instance
instance Qw:∀ (n:Nat) (y0) (y1) (y2),Mi (Hw n y0 y1 y2)
 | 0,_,_,_=>⟨none,fun _ h=>by cases h⟩
 | n+1,y0,y1,y2=>by
  haveI:=Qw n
  show Mi (G8 (Hw n) y0 y1 y2)
  infer_instance
instance (y0) (y1) (y2):Mi (Lw y0 y1 y2):=by delta Lw;infer_instance
instance (a0):Mi (J1 a0):=by delta J1;infer_instance
instance (a0) (s):Mi (IP a0 s):=by delta IP;infer_instance
instance (a0) (s):Mi (KS a0 s):=by delta KS;infer_instance
instance (a0):Mi (DI a0):=by delta DI;infer_instance
instance (_self) (a0):Mi (FY _self a0):=by delta FY;infer_instance
instance PF:∀ (n:Nat) (y0),Mi (G9 n y0)
 | 0,_=>⟨none,fun _ h=>by cases h⟩
 | n+1,y0=>by
  haveI:=PF n
  show Mi (FY (G9 n) y0)
  infer_instance
instance (y0):Mi (K5 y0):=by delta K5;infer_instance
instance (a0):Mi (K6 a0):=by delta K6;infer_instance
instance (a0):Mi (HV a0):=by delta HV;infer_instance
instance (a) (b) (c) (d):Mi (IY a b c d):=by delta IY;infer_instance
instance (a0):Mi (Lv a0):=by delta Lv;infer_instance
instance (a) (b):Mi (J5 a b):=by delta J5;infer_instance
instance (a) (b) (s):Mi (IU a b s):=by obtain⟨d,c⟩:=s;delta IU;dsimp only;infer_instance
instance (a) (b) (s):Mi (KZ a b s):=by delta KZ;infer_instance
instance (a) (b):Mi (Fy a b):=by delta Fy;repeat' first | (show Mi _;infer_instance) | refine @iB _ _ _ _ ?_ (fun _=>?_) | refine @iC _ _ _ _ ?_ | refine @iI _ _ _ _ _ ?_ ?_
instance (a) (b):Mi (Fz a b):=by delta Fz;infer_instance
instance (a) (b):Mi (F0 a b):=by delta F0;infer_instance
instance (a0):Mi (IL a0):=by delta IL;infer_instance
instance (a0):Mi (JW a0):=by delta JW;infer_instance
instance (a0):Mi (Jx a0):=by delta Jx;infer_instance
instance (a0) (a1):Mi (C8 a0 a1):=by delta C8;infer_instance
instance (a) (b):Mi (EV a b):=by delta EV;infer_instance
instance (a0) (a) (s):Mi (E1 a0 a s):=by obtain⟨c,d,e,b⟩:=s;delta E1;dsimp only;repeat' first | (show Mi _;infer_instance) | refine @iB _ _ _ _ ?_ (fun _=>?_) | refine @iC _ _ _ _ ?_ | refine @iI _ _ _ _ _ ?_ ?_
instance (a0) (a) (s):Mi (GW a0 a s):=by delta GW;infer_instance
instance (a0) (a) (b):Mi (EW a0 a b):=by delta EW;infer_instance
instance (a0) (a) (s):Mi (E2 a0 a s):=by obtain⟨c,b⟩:=s;delta E2;dsimp only;infer_instance
instance (a0) (a) (s):Mi (GX a0 a s):=by delta GX;infer_instance
instance (a0) (s):Mi (E3 a0 s):=by obtain⟨b,a⟩:=s;delta E3;dsimp only;infer_instance
instance (a0) (s):Mi (GY a0 s):=by delta GY;infer_instance
instance (a0) (a1_c0):Mi (Gt a0 a1_c0):=by delta Gt;infer_instance
instance (a0) (a):Mi (J4 a0 a):=by delta J4;infer_instance
instance (a0) (a1) (a) (s):Mi (IT a0 a1 a s):=by obtain⟨c,b⟩:=s;delta IT;dsimp only;infer_instance
instance (a0) (a1) (a) (s):Mi (KY a0 a1 a s):=by delta KY;infer_instance
instance (a0) (a1):Mi (L2 a0 a1):=by delta L2;infer_instance
instance (a0) (a):Mi (J6 a0 a):=by delta J6;infer_instance
instance (a0) (s):Mi (IV a0 s):=by obtain⟨b,a⟩:=s;delta IV;dsimp only;infer_instance
instance (a0) (s):Mi (La a0 s):=by delta La;infer_instance
instance (a0):Mi (L3 a0):=by delta L3;infer_instance
noncomputable instance {σ:Type} (a0:Go.L.Pv) (s:Int×σ):Mi (EU a0 s):=by obtain⟨a,sJ20⟩:=s;delta EU;dsimp only;infer_instance
noncomputable instance {σ:Type} (a0:Go.L.Pv) (s:Int×σ):Mi (H0 a0 s):=by delta H0;infer_instance
noncomputable instance {σ:Type} (step:σ→((List UInt8)×Int×Int×(List UInt8))→Option σ) [∀ a b,Mi (step a b)] (_self:Go.L.Pv→(List (List UInt8))→σ→Option σ) (a0:Go.L.Pv) (a1:List (List UInt8)) (s:σ):Mi (F5 step _self a0 a1 s):=by delta F5;infer_instance
instance Pd {σ:Type} (step:σ→((List UInt8)×Int×Int×(List UInt8))→Option σ) [∀ a b,Mi (step a b)]:∀ (n:Nat) (y0) (y1) (y2),Mi (FN step n y0 y1 y2)
 | 0,_,_,_=>⟨none,fun _ h=>by cases h⟩
 | n+1,y0,y1,y2=>by
  haveI:=Pd step n
  show Mi (F5 step (FN step n) y0 y1 y2)
  infer_instance
noncomputable instance {σ:Type} (step:σ→((List UInt8)×Int×Int×(List UInt8))→Option σ) [∀ a b,Mi (step a b)] (y0) (y1) (y2):Mi (IH step y0 y1 y2):=by delta IH;infer_instance
instance (i) (l) (x):Mi (KE i l x):=by delta KE;infer_instance
instance (a0):Mi (Em a0):=by delta Em;infer_instance
instance (a0):Mi (KT a0):=by delta KT;infer_instance
instance (a):Mi (It a):=by delta It;infer_instance
instance (a0) (s):Mi (HC a0 s):=by obtain⟨b,a⟩:=s;delta HC;dsimp only;infer_instance
instance (a0) (s):Mi (JO a0 s):=by delta JO;infer_instance
instance (a0):Mi (JX a0):=by delta JX;infer_instance
instance (a1):Mi (Ec a1):=by delta Ec;infer_instance
instance (_a0) (a1):Mi (FD _a0 a1):=by delta FD;infer_instance
instance (a):Mi (D2 a):=by delta D2;infer_instance
instance (a0) (s):Mi (Dl a0 s):=by obtain⟨b,a⟩:=s;delta Dl;dsimp only;infer_instance
instance (a0) (s):Mi (F6 a0 s):=by delta F6;infer_instance
instance (a0) (a):Mi (D3 a0 a):=by delta D3;infer_instance
instance (a0) (s):Mi (Dm a0 s):=by obtain⟨b,a⟩:=s;delta Dm;dsimp only;infer_instance
instance (a0) (s):Mi (F7 a0 s):=by delta F7;infer_instance
instance (a0):Mi (E0 a0):=by delta E0;infer_instance
instance (a):Mi (J2 a):=by delta J2;infer_instance
instance (a0):Mi (Ly a0):=by delta Ly;infer_instance
instance (a):Mi (J3 a):=by delta J3;infer_instance
instance (a0) (s):Mi (IQ a0 s):=by obtain⟨b,a⟩:=s;delta IQ;dsimp only;infer_instance
instance (a0) (s):Mi (KW a0 s):=by delta KW;infer_instance
instance (a0):Mi (Lz a0):=by delta Lz;infer_instance
instance (a0):Mi (GV a0):=by delta GV;infer_instance
instance (a0) (a):Mi (Hm a0 a):=by delta Hm;infer_instance
def DG(a0:Int)(a1:List (((List UInt8)×Int×Int×(List UInt8))×(List Int)))(b:(List ((List UInt8)×Int×Int×(List UInt8)))):(List (((List UInt8)×Int×Int×(List UInt8))×(List Int)))×Int→Option (((List (((List UInt8)×Int×Int×(List UInt8))×(List Int)))×Int) ⊕ ((Int×(List (((List UInt8)×Int×Int×(List UInt8))×(List Int))))×(Int×Int))):=fun⟨d,a⟩=>
 if a<(b.length:Int) then Go.L.AY (0≤a∧a<(b.length:Int)) (Option.bind (Em (Go.L.HL [] ((b.getD a.toNat default).1,(b.getD a.toNat default).2.1,(b.getD a.toNat default).2.2.1,(b.getD a.toNat default).2.2.2) a1)) (fun c=>Go.L.AY (c.length<4611686018427387904) (Go.L.AY ((isI c).length≤9223372036854775807) (Go.L.AY (Go.E.JE 72 (d.length+([(((b.getD a.toNat default).1,(b.getD a.toNat default).2.1,(b.getD a.toNat default).2.2.1,(b.getD a.toNat default).2.2.2),(Lib.compact (isI c)))]).length)) (Go.L.AY (Go.L.BJ (a+(1:Int))) (some (Sum.inl ((d++[(((b.getD a.toNat default).1,(b.getD a.toNat default).2.1,(b.getD a.toNat default).2.2.1,(b.getD a.toNat default).2.2.2),(Lib.compact (isI c)))]),(a+(1:Int)))))))))) else Option.map Sum.inr ((Hm a0) d)
theorem N8:@DG = @GC:=by
 unfold DG GC;simp only [Yb,Ya,Ul]
instance (a0) (a1) (b) (s):Mi (DG a0 a1 b s):=by obtain⟨c,a⟩:=s;delta DG;dsimp only;infer_instance
instance (a0) (a1) (a) (s):Mi (GC a0 a1 a s):=⟨(inferInstance:Mi (DG a0 a1 a s)).c,by rw [← N8];exact(inferInstance:Mi (DG a0 a1 a s)).h⟩
instance (a0) (a1) (a) (s):Mi (Ko a0 a1 a s):=by delta Ko;infer_instance
instance (a0) (a1):Mi (K7 a0 a1):=by delta K7;infer_instance
instance (a0) (a):Mi (IS a0 a):=by delta IS;infer_instance
instance (a0) (s):Mi (Iu a0 s):=by obtain⟨b,a⟩:=s;delta Iu;dsimp only;infer_instance
instance (a0) (s):Mi (Kp a0 s):=by delta Kp;infer_instance
instance (a0):Mi (K8 a0):=by delta K8;infer_instance
instance (a) (b) (c) (d) (e) (f) (g):Mi (Hr a b c d e f g):=by delta Hr;infer_instance
instance (a) (b) (c):Mi (IZ a b c):=by delta IZ;infer_instance
instance (a0) (s):Mi (I2 a0 s):=by obtain⟨b,c,d,a⟩:=s;delta I2;dsimp only;repeat' first | (show Mi _;infer_instance) | refine @iB _ _ _ _ ?_ (fun _=>?_) | refine @iC _ _ _ _ ?_ | refine @iI _ _ _ _ _ ?_ ?_
instance (a0) (s):Mi (Kt a0 s):=by delta Kt;infer_instance
instance (a0):Mi (KB a0):=by delta KB;infer_instance
instance (a0):Mi (DL a0):=by delta DL;infer_instance
instance (a0):Mi (C6 a0):=by delta C6;infer_instance
instance (a0):Mi (Fq a0):=by delta Fq;infer_instance
instance (a0) (a1):Mi (CB a0 a1):=by delta CB;infer_instance
instance (a0) (a1):Mi (strings_Compare a0 a1):=by delta strings_Compare;infer_instance
instance (a0) (a1):Mi (F1 a0 a1):=by delta F1;infer_instance
instance (a0) (a1) (a):Mi (B0 a0 a1 a):=by delta B0;infer_instance
instance (a0) (a1) (s):Mi (Bz a0 a1 s):=by obtain⟨b,a⟩:=s;delta Bz;dsimp only;repeat' first | (show Mi _;infer_instance) | refine @iB _ _ _ _ ?_ (fun _=>?_) | refine @iC _ _ _ _ ?_ | refine @iI _ _ _ _ _ ?_ ?_
instance (a0) (a1) (s):Mi (B9 a0 a1 s):=by delta B9;infer_instance
instance (a0) (a1):Mi (B4 a0 a1):=by delta B4;infer_instance
instance (a0) (a1):Mi (Ii a0 a1):=by delta Ii;infer_instance
instance (a0):Mi (Db a0):=by delta Db;infer_instance
instance (a0) (a1):Mi (Iv a0 a1):=by delta Iv;infer_instance
instance (a):Mi (I3 a):=by delta I3;infer_instance
instance (a0) (s):Mi (HK a0 s):=by obtain⟨b,a⟩:=s;delta HK;dsimp only;infer_instance
instance (a0) (s):Mi (JR a0 s):=by delta JR;infer_instance
instance (a0):Mi (JZ a0):=by delta JZ;infer_instance
instance (a):Mi (Fk a):=by delta Fk;infer_instance
instance (a0) (a1):Mi (G2 a0 a1):=by delta G2;infer_instance
instance (a):Mi (FJ a):=by delta FJ;infer_instance
instance (a1) (s):Mi (Fj a1 s):=by obtain⟨b,a⟩:=s;delta Fj;dsimp only;infer_instance
instance (a1) (s):Mi (H5 a1 s):=by delta H5;infer_instance
instance (a0) (a1):Mi (Hj a0 a1):=by delta Hj;infer_instance
instance (a):Mi (Dc a):=by delta Dc;infer_instance
instance (a1) (a) (s):Mi (CR a1 a s):=by delta CR;infer_instance
instance (a1) (a) (s):Mi (EJ a1 a s):=by delta EJ;infer_instance
instance (a1) (a):Mi (Cr a1 a):=by delta Cr;infer_instance
instance (a1) (a) (s):Mi (CS a1 a s):=by obtain⟨c,b⟩:=s;delta CS;dsimp only;infer_instance
instance (a1) (a) (s):Mi (EK a1 a s):=by delta EK;infer_instance
instance (self) [∀ a b,Mi (self a b)] (a0) (a1):Mi (CK self a0 a1):=by delta CK;infer_instance
instance LL:∀ (n:Nat) (y0) (y1),Mi (CI n y0 y1)
 | 0,_,_=>⟨none,fun _ h=>by cases h⟩
 | n+1,y0,y1=>by
  haveI:=LL n
  show Mi (CK (CI n) y0 y1)
  infer_instance
instance (y0) (y1):Mi (Gg y0 y1):=by delta Gg;infer_instance
instance (a):Mi (FK a):=by delta FK;infer_instance
instance (a2) (a) (s):Mi (Fl a2 a s):=by obtain⟨c,b⟩:=s;delta Fl;dsimp only;infer_instance
instance (a2) (a) (s):Mi (H6 a2 a s):=by delta H6;infer_instance
instance (a0) (a1) (a2):Mi (FA a0 a1 a2):=by delta FA;infer_instance
instance (a0):Mi (EY a0):=by delta EY;infer_instance
instance (a0):Mi (C4 a0):=by delta C4;infer_instance
instance (a):Mi (FF a):=by delta FF;infer_instance
instance (a0) (s):Mi (EZ a0 s):=by obtain⟨c,a,b⟩:=s;delta EZ;dsimp only;infer_instance
instance (a0) (s):Mi (H4 a0 s):=by delta H4;infer_instance
instance (a0):Mi (GZ a0):=by delta GZ;infer_instance
instance (a0):Mi (CC a0):=by delta CC;infer_instance
instance (a0) (a1) (a2):Mi (FG a0 a1 a2):=by delta FG;infer_instance
instance (a0):Mi (FL a0):=by delta FL;infer_instance
instance (a0) (a1) (a2) (a3):Mi (Fm a0 a1 a2 a3):=by delta Fm;infer_instance
instance (a0) (a1) (a2) (a3) (a4):Mi (EO a0 a1 a2 a3 a4):=by delta EO;infer_instance
instance (a0):Mi (C0 a0):=by delta C0;infer_instance
instance (a0) (b) (c) (a):Mi (Es a0 b c a):=by delta Es;infer_instance
instance (a0) (self) [∀ b,Mi (self b)] (c) (d) (s):Mi (DQ a0 self c d s):=by obtain⟨e,a⟩:=s;delta DQ;dsimp only;infer_instance
instance (a0) (self) [∀ a,Mi (self a)] (b) (c) (s):Mi (HY a0 self b c s):=by delta HY;infer_instance
instance (self) [∀ a,Mi (self a)] (a0):Mi (D7 self a0):=by delta D7;infer_instance
instance PG:∀ (n:Nat) (y0),Mi (GF n y0)
 | 0,_=>⟨none,fun _ h=>by cases h⟩
 | n+1,y0=>by
  haveI:=PG n
  show Mi (D7 (GF n) y0)
  infer_instance
instance (y0):Mi (Ix y0):=by delta Ix;infer_instance
instance (b) (a):Mi (FE b a):=by delta FE;infer_instance
instance (a0) (a1) (b) (self) [∀ c d,Mi (self c d)] (s):Mi (CF a0 a1 b self s):=by obtain⟨e,a⟩:=s;delta CF;dsimp only;infer_instance
instance (a0) (a1) (a) (self) [∀ b c,Mi (self b c)] (s):Mi (H3 a0 a1 a self s):=by delta H3;infer_instance
instance (a0) (a1) (self) [∀ b c,Mi (self b c)] (a):Mi (CW a0 a1 self a):=by delta CW;infer_instance
instance (self) [∀ a b,Mi (self a b)] (a0) (a1):Mi (BO self a0 a1):=by delta BO;repeat' first | (show Mi _;infer_instance) | refine @iB _ _ _ _ ?_ (fun _=>?_) | refine @iC _ _ _ _ ?_ | refine @iI _ _ _ _ _ ?_ ?_
instance Pe:∀ (n:Nat) (y0) (y1),Mi (DK n y0 y1)
 | 0,_,_=>⟨none,fun _ h=>by cases h⟩
 | n+1,y0,y1=>by
  haveI:=Pe n
  show Mi (BO (DK n) y0 y1)
  infer_instance
instance (y0) (y1):Mi (II y0 y1):=by delta II;infer_instance
instance (a) (b) (c) (d) (e) (f):Mi (Iy a b c d e f):=by delta Iy;infer_instance
instance (a0):Mi (Gk a0):=by delta Gk;infer_instance
instance (a0) (a1):Mi (G6 a0 a1):=by delta G6;infer_instance
instance:Mi (ID):=by delta ID;infer_instance
instance (a0) (a1) (s):Mi (G7 a0 a1 s):=by delta G7;infer_instance
instance (a0) (a1) (s):Mi (JV a0 a1 s):=by delta JV;infer_instance
instance (a0) (a1):Mi (JL a0 a1):=by delta JL;infer_instance
instance:Mi (D9):=by delta D9;infer_instance
instance (a0) (a1) (self) [∀ a b,Mi (self a b)] (s):Mi (Cw a0 a1 self s):=by delta Cw;infer_instance
instance (a0) (a1) (self) [∀ a b,Mi (self a b)] (s):Mi (Hd a0 a1 self s):=by delta Hd;infer_instance
instance (a0) (a1) (self) [∀ a b,Mi (self a b)]:Mi (Fh a0 a1 self):=by delta Fh;infer_instance
instance (self) [∀ a b,Mi (self a b)] (a0) (a1):Mi (CM self a0 a1):=by delta CM;infer_instance
instance O9:∀ (n:Nat) (y0) (y1),Mi (DX n y0 y1)
 | 0,_,_=>⟨none,fun _ h=>by cases h⟩
 | n+1,y0,y1=>by
  haveI:=O9 n
  show Mi (CM (DX n) y0 y1)
  infer_instance
instance (y0) (y1):Mi (CZ y0 y1):=by delta CZ;infer_instance
instance:Mi (K2):=by delta K2;infer_instance
instance (a0) (a1) (s):Mi (JU a0 a1 s):=by delta JU;infer_instance
instance (a0) (a1) (s):Mi (Ms a0 a1 s):=by delta Ms;infer_instance
instance (a0) (a1):Mi (NJ a0 a1):=by delta NJ;infer_instance
instance (a0) (a1):Mi (H9 a0 a1):=by delta H9;infer_instance
instance (a):Mi (Ei a):=by delta Ei;infer_instance
instance:Mi (Jm):=by delta Jm;repeat' first | (show Mi _;infer_instance) | refine @iB _ _ _ _ ?_ (fun _=>?_) | refine @iC _ _ _ _ ?_ | refine @iI _ _ _ _ _ ?_ ?_
theorem Ws:Jm=some true:=(inferInstance:Mi Jm).h true (by kernel_rfl)
end
end Go.Proofs.YtekmbcbgknmhiaaGreatDoor
end
noncomputable section
namespace Go.Proofs.YtekmbcbgknmhiaaGreatDoor
open Go Go.E Go.RowKit Go.L
set_option maxHeartbeats 1000000
set_option maxRecDepth 10000
open _root_.Go.Proofs.Tryz
def EL(a0:Go.L.Qv):Option (Bool):=
 Option.bind (Gk a0) (fun a=>Option.bind (Hq a0) (fun b=>Option.bind (Jm) (fun e=>if !e then Option.bind (Jm) (fun f=>if f then if a.2.1=b.1∧a.2.2=b.2 then Option.bind (CZ a.1 (Go.L.Qv.mk (0:Int) ([]) ([]:Aas) ([]) (0:Int) (0:Int) ([]))) (fun g=>some (g)) else some (false) else some (false)) else if b.1=(0:Int) then Option.bind (N2 a0 false) (fun c=>Option.bind (Hq c) (fun h=>if h.1=(0:Int) then(if a.2.1=(0:Int) then Option.bind (CZ a.1 c) (fun i=>some (i)) else some (false)) else Option.bind (H9 (14:Int) (-1:Int)) (fun d=>if a.2.1=d.1∧a.2.2=d.2 then Option.bind (CZ a.1 (Go.L.Qv.mk (0:Int) ([]) ([]:Aas) ([]) (0:Int) (0:Int) ([]))) (fun j=>some (j)) else some (false)))) else Option.bind (Jm) (fun k=>if k then if a.2.1=b.1∧a.2.2=b.2 then Option.bind (CZ a.1 (Go.L.Qv.mk (0:Int) ([]) ([]:Aas) ([]) (0:Int) (0:Int) ([]))) (fun l=>some (l)) else some (false) else some (false)))))
theorem JG(w:World)(H:PH)(hH:Le H (hp w))(hU:Dt H){a0:Go.L.Qv}{ap:Value}{aq:Value}{ar:Value}(au:AI .st H ap (a0.f.2.1))(av:AI .byte H aq (a0.f.2.2.2.1))(aw:AI .AV H ar (a0.f.2.2.2.2.2.2)){r:Bool}(h:EL a0=some r):
  Ok Tryz.prog 8 [.agg #[No a0.f.1,ap,Aar a0.f.2.2.1,aq,No a0.f.2.2.2.2.1,No a0.f.2.2.2.2.2.1,ar]] w (fun v w'=>Ext w w'∧v=.bool r):=by
 refine A5 (n:=54) [(0,.agg #[No a0.f.1,ap,Aar a0.f.2.2.1,aq,No a0.f.2.2.2.2.1,No a0.f.2.2.2.2.2.1,ar])] func8 rfl rfl rfl rfl rfl ?_;have hL:=AR.start w;refine Al<|Cv (t:=26) rfl rfl rfl hL fun w1 b1 an co _=>AB 1 rfl<|Al<|Af (AE 0 rfl AaY rfl Bc an rfl) rfl ?_;obtain⟨x2,cb,h⟩:=Go.L.bind_some h;refine Ax rfl rfl an (Mc (a0:=a0) _ _ (As hH an) (hU.mono (Ai hH)) (au.mono (Ai hH)) (av.mono (Ai hH)) (aw.mono (Ai hH)) cb) ?_;rintro _ w3 ⟨cp,cq,cr,rfl,bc,bd,be⟩ a6 cc cs;have a:=bc.mono (Cj hH an a6);have b:=bd.mono (Cj hH an a6);have c:=be.mono (Cj hH an a6);refine Ar 3 rfl<|AJ Bc rfl rfl cc fun w4 b4 cd g _=>AJ AT rfl rfl cd fun w5 b5 ce i _=>Ak 1 rfl rfl rfl Bc ce rfl rfl (AF rfl (AF a.one (AF rfl (AF b.one (AF rfl (AF rfl (AF c.one BM))))))) fun w6 cf j=>Ak 0 rfl rfl rfl AT cf rfl rfl (AF rfl (AF rfl BM)) fun w7 a3 k=>Ad ?_;have e:=a3.rG H;refine Al<|Af (AE 2 rfl AaY rfl Bc a3 rfl) rfl ?_;obtain⟨x9,cg,h⟩:=Go.L.bind_some h
 refine Ax rfl rfl a3 (Lh (a0:=a0) _ _ (As hH a3) (au.mono (Ai hH)) (av.mono (Ai hH)) (aw.mono (Ai hH)) cg) ?_;rintro _ c2 rfl ct bm aj;refine AJ AT rfl rfl bm fun c3 c4 bn ak _=>Ak 0 rfl rfl rfl AT bn rfl rfl (AF rfl (AF rfl BM)) fun c5 a7 al=>Ad<|A8<|Al ?_;obtain⟨c6,bo,h⟩:=Go.L.bind_some h;refine Ax rfl rfl a7 (M7 _ _ (As hH a7) (hU.mono (Ai hH)) bo) ?_;rintro _ c7 rfl cu l am;refine Ar 2 rfl<|AQ (s:=16) rfl (fun m=>?_) (fun m=>?_)
 ·have h:=Bv m h
  iterate 3 refine Aj rfl rfl m rfl ?_
  refine Af (A3 rfl m rfl) rfl<|Ad<|Ce rfl<|Al ?_;obtain⟨c8,bp,h⟩:=Go.L.bind_some h;refine Ax rfl rfl l (M7 _ _ (As hH l) (hU.mono (Ai hH)) bp) ?_;rintro _ c9 rfl cv ae bf;refine Ar 1 rfl<|AQ (s:=22) rfl (fun o=>?_) (fun o=>?_)
  ·have h:=Bv o h;refine Aa rfl rfl o<|Af (AE 1 rfl AaR rfl AT ae rfl) rfl<|Aa rfl rfl o<|Af (AE 0 rfl AaR rfl AT ae rfl) rfl<|Aa rfl rfl o<|Af (T9 rfl rfl IC (LA _ _ _ _)) rfl<|Af (A3 rfl o rfl) rfl<|Ar 1 rfl<|AQ (s:=27) rfl (fun p=>?_) (fun p=>?_)
   ·have h:=A1 (of_decide_eq_true p) h;refine Aa rfl rfl p<|Af (AE 2 rfl AaY rfl Bc ae rfl) rfl<|Aa rfl rfl p<|Af (AW rfl (fun _=>Lp _)) rfl<|Aa rfl rfl p ?_;obtain⟨da,bq,h⟩:=Go.L.bind_some h;have a:=a.mono (Ab hH (g.trans (i.trans (j.trans k))));have b:=b.mono (Ab hH (g.trans (i.trans (j.trans k))));have c:=c.mono (Ab hH (g.trans (i.trans (j.trans k))));have e:=e.trans (Ab hH (aj.trans (ak.trans (al.trans (am.trans bf)))));refine Ax rfl rfl ae (Gb (a0:=x2.1) (a1:=(Go.L.Qv.mk (0:Int) ([]) ([]:Aas) ([]) (0:Int) (0:Int) ([]))) _ _ (As hH ae) (a.mono e) (b.mono e) (c.mono e) (AI.nil _ _) (AI.nil _ _) (AI.nil _ _) bq) ?_;rintro _ db rfl cw br ci;refine Af (A3 rfl p rfl) rfl<|AB 1 rfl<|Az<|Au ?_;obtain rfl:=Option.some.inj h;refine An rfl rfl ?_;exact⟨br.ext,rfl⟩
   have h:=A2 (of_decide_eq_false p) h
   iterate 3 refine Aj rfl rfl p rfl ?_
   refine Af (A7 rfl p rfl) rfl<|AB 1 rfl<|Az<|Au ?_;obtain rfl:=Option.some.inj h;refine An rfl rfl ?_;exact⟨ae.ext,rfl⟩
  have h:=Bw o h
  iterate 3 refine Aj rfl rfl o rfl ?_
  refine Af (A7 rfl o rfl) rfl<|Ar 1 rfl ?_
  iterate 3 refine Aj rfl rfl rfl rfl ?_
  refine Af (A7 rfl rfl rfl) rfl<|AB 1 rfl<|Az<|Au ?_;obtain rfl:=Option.some.inj h;refine An rfl rfl ?_;exact⟨ae.ext,rfl⟩
 have h:=Bw m h;refine Aa rfl rfl m<|Af (Ag rfl AaR rfl BG (by decide)) rfl<|Aa rfl rfl m<|Af (Ah 0 rfl Aau rfl l rfl rfl) rfl<|Aa rfl rfl m<|Af (Ae rfl) rfl<|Af (A7 rfl m rfl) rfl<|Ad<|C9 rfl (fun ax=>?_) (fun ax=>?_)
 ·have h:=A2 ax h;refine Al ?_;obtain⟨dc,bs,h⟩:=Go.L.bind_some h;refine Ax rfl rfl l (M7 _ _ (As hH l) (hU.mono (Ai hH)) bs) ?_;rintro _ dd rfl cx af bg;refine Ar 1 rfl<|AQ (s:=22) rfl (fun u=>?_) (fun u=>?_)
  ·have h:=Bv u h;refine Aa rfl rfl u<|Af (AE 1 rfl AaR rfl AT af rfl) rfl<|Aa rfl rfl u<|Af (AE 0 rfl AaR rfl AT af rfl) rfl<|Aa rfl rfl u<|Af (T9 rfl rfl IC (LA _ _ _ _)) rfl<|Af (A3 rfl u rfl) rfl<|Ar 1 rfl<|AQ (s:=27) rfl (fun x=>?_) (fun x=>?_)
   ·have h:=A1 (of_decide_eq_true x) h;refine Aa rfl rfl x<|Af (AE 2 rfl AaY rfl Bc af rfl) rfl<|Aa rfl rfl x<|Af (AW rfl (fun _=>Lp _)) rfl<|Aa rfl rfl x ?_;obtain⟨de,bt,h⟩:=Go.L.bind_some h;have a:=a.mono (Ab hH (g.trans (i.trans (j.trans k))));have b:=b.mono (Ab hH (g.trans (i.trans (j.trans k))));have c:=c.mono (Ab hH (g.trans (i.trans (j.trans k))));have e:=e.trans (Ab hH (aj.trans (ak.trans (al.trans (am.trans bg)))));refine Ax rfl rfl af (Gb (a0:=x2.1) (a1:=(Go.L.Qv.mk (0:Int) ([]) ([]:Aas) ([]) (0:Int) (0:Int) ([]))) _ _ (As hH af) (a.mono e) (b.mono e) (c.mono e) (AI.nil _ _) (AI.nil _ _) (AI.nil _ _) bt) ?_;rintro _ df rfl cy bu cj;refine Af (A3 rfl x rfl) rfl<|AB 1 rfl<|Az<|Au ?_;obtain rfl:=Option.some.inj h;refine An rfl rfl ?_;exact⟨bu.ext,rfl⟩
   have h:=A2 (of_decide_eq_false x) h
   iterate 3 refine Aj rfl rfl x rfl ?_
   refine Af (A7 rfl x rfl) rfl<|AB 1 rfl<|Az<|Au ?_;obtain rfl:=Option.some.inj h;refine An rfl rfl ?_;exact⟨af.ext,rfl⟩
  have h:=Bw u h
  iterate 3 refine Aj rfl rfl u rfl ?_
  refine Af (A7 rfl u rfl) rfl<|Ar 1 rfl ?_
  iterate 3 refine Aj rfl rfl rfl rfl ?_
  refine Af (A7 rfl rfl rfl) rfl<|AB 1 rfl<|Az<|Au ?_;obtain rfl:=Option.some.inj h;refine An rfl rfl ?_;exact⟨af.ext,rfl⟩
 have h:=A1 ax h;refine Av<|Ao<|Al<|Af (AE 3 rfl AaY rfl Bc l rfl) rfl ?_;obtain⟨bj,bv,h⟩:=Go.L.bind_some h;refine Ax rfl rfl l (R1 (a0:=a0) _ _ (As hH l) (au.mono (Ai hH)) (av.mono (Ai hH)) (aw.mono (Ai hH)) bv) ?_;rintro _ dg ⟨ck,cl,cm,rfl,a8,a9,ba⟩ ay bw a4;have aa:=a8.mono (Cj hH l ay);have ab:=a9.mono (Cj hH l ay);have ac:=ba.mono (Cj hH l ay);refine AJ Bc rfl rfl bw fun dh di bx ah _=>Ak 0 rfl rfl rfl Bc bx rfl rfl (AF rfl (AF aa.one (AF rfl (AF ab.one (AF rfl (AF rfl (AF ac.one BM))))))) fun dj ao ai=>Ad<|A8 ?_;have d:=ao.rG H;refine Al<|Af (AE 0 rfl AaY rfl Bc ao rfl) rfl ?_;obtain⟨dk,bz,h⟩:=Go.L.bind_some h;have aa:=aa.mono (Ab hH (ah.trans ai));have ab:=ab.mono (Ab hH (ah.trans ai));have ac:=ac.mono (Ab hH (ah.trans ai));refine Ax rfl rfl ao (Lh (a0:=bj) _ _ (As hH ao) (aa.mono d) (ab.mono d) (ac.mono d) bz) ?_;rintro _ dl rfl cz ad a5;refine Af (ZJ rfl AaR rfl Aau rfl rfl) rfl<|AB 1 rfl<|C9 rfl (fun az=>?_) (fun az=>?_)
 ·have h:=A2 az h;refine EI (.q 0 (.q 1 (.q 2 (.q 3 (.q 4 (.q 5 (.q 6 (.q 7 (.q 8 (.tail 9)))))))))) mixed (by kernel_rfl) (fun ch bb=>?_);have ag:=ad.call bb;have bh:=AX ad bb;refine BE (AE 2 rfl AaR rfl AT ag rfl) rfl rfl ?_;obtain⟨dm,b0,h⟩:=Go.L.bind_some h;refine ER rfl rfl rfl (fun dn c0=>Gi _ _ (Le.refl _) b0)<|BE (T9 rfl rfl IC (LA _ _ _ _)) rfl rfl<|Ds 1 rfl<|NA (s:=41) rfl (fun y=>?_) (fun y=>?_)
  ·have h:=A1 (of_decide_eq_true y) h;refine Km (AE 3 rfl AaY rfl Bc ag rfl) rfl rfl rfl rfl y rfl<|Km (AW rfl (fun _=>Lp _)) rfl rfl rfl rfl y rfl ?_;obtain⟨dp,b2,h⟩:=Go.L.bind_some h;have a:=a.mono (Ab hH (g.trans (i.trans (j.trans k))));have b:=b.mono (Ab hH (g.trans (i.trans (j.trans k))));have c:=c.mono (Ab hH (g.trans (i.trans (j.trans k))));have e:=e.trans (Ab hH (aj.trans (ak.trans (al.trans (am.trans (a4.trans (ah.trans ai)))))));have d:=d.trans (Ab hH (a5.trans bh));have bi:=(fun(bk:World) (a2:Ext ch bk)=>Gb bk _ (Le.refl _) ((((a.mono e).mono d).mono (As hH ag)).mono a2.le) ((((b.mono e).mono d).mono (As hH ag)).mono a2.le) ((((c.mono e).mono d).mono (As hH ag)).mono a2.le) (AI.nil _ _) (AI.nil _ _) (AI.nil _ _) b2);refine UT rfl rfl rfl rfl y rfl rfl bi<|BE (A3 rfl y rfl) rfl rfl<|Ds 1 rfl<|BW (fun dq b3=>?_);have b6:=ag.call b3;refine Ad<|Az<|Au ?_;obtain rfl:=Option.some.inj h;refine An rfl rfl ?_;exact⟨b6.ext,rfl⟩
  have h:=A2 (of_decide_eq_false y) h
  iterate 3 refine S3 rfl rfl rfl rfl y rfl ?_
  refine BE (A7 rfl y rfl) rfl rfl<|Ds 1 rfl<|BW (fun dr b7=>?_);have b8:=ag.call b7;refine Ad<|Az<|Au ?_;obtain rfl:=Option.some.inj h;refine An rfl rfl ?_;exact⟨b8.ext,rfl⟩
 have h:=A1 az h;refine Av<|Ao<|Al<|Af (Ag rfl AaR rfl BG (by decide)) rfl<|Af (Ah 2 rfl Aau rfl ad rfl rfl) rfl<|Ar 2 rfl<|AQ (s:=49) rfl (fun z=>?_) (fun z=>?_)
 ·have h:=A1 (of_decide_eq_true z) h;refine Aa rfl rfl z<|Af (AE 3 rfl AaY rfl Bc ad rfl) rfl<|Aa rfl rfl z<|Af (AE 0 rfl AaY rfl Bc ad rfl) rfl<|Aa rfl rfl z ?_;obtain⟨ds,b9,h⟩:=Go.L.bind_some h;have a:=a.mono (Ab hH (g.trans (i.trans (j.trans k))));have b:=b.mono (Ab hH (g.trans (i.trans (j.trans k))));have c:=c.mono (Ab hH (g.trans (i.trans (j.trans k))));have e:=e.trans (Ab hH (aj.trans (ak.trans (al.trans (am.trans (a4.trans (ah.trans ai)))))));have d:=d.trans (Ab hH a5);refine Ax rfl rfl ad (Gb (a0:=x2.1) (a1:=bj) _ _ (As hH ad) ((a.mono e).mono d) ((b.mono e).mono d) ((c.mono e).mono d) (aa.mono d) (ab.mono d) (ac.mono d) b9) ?_;rintro _ dt rfl c1 ca cn;refine Af (A3 rfl z rfl) rfl<|AB 1 rfl<|Az ?_;obtain rfl:=Option.some.inj h;refine An rfl rfl ?_;exact⟨ca.ext,rfl⟩
 have h:=A2 (of_decide_eq_false z) h
 iterate 3 refine Aj rfl rfl z rfl ?_
 refine Af (A7 rfl z rfl) rfl<|AB 1 rfl<|Az ?_;obtain rfl:=Option.some.inj h;refine An rfl rfl ?_;exact⟨ad.ext,rfl⟩
end Go.Proofs.YtekmbcbgknmhiaaGreatDoor
end
noncomputable section
namespace Go.Proofs.YtekmbcbgknmhiaaGreatDoor
open Go Go.L
theorem Ye{q:Qv}(hq:Sq q):EL q=some true:=by
 unfold EL;rw [Wp hq,Option.bind_some,Oo hq,Option.bind_some,Ws];simp only [Option.bind_some,Bool.not_true,Bool.false_eq_true,if_false,if_true]
 by_cases h:(Uo q).1=0
 ·obtain⟨hv,hc,_,c⟩:=Tp h;obtain⟨b,a,_⟩:=UL 8 q false hq hv (by omega);rw [if_pos h,if_pos h];unfold N2;rw [(b 1000 (by omega)).2,Option.bind_some,Oo a,Option.bind_some]
  by_cases h2:(Uo (RR 8 q false)).1=0
  ·rw [if_pos h2,if_pos h2,if_pos rfl,XY a (Tp h2).1.dp (by omega)]
   rfl
  ·rw [if_neg h2,if_neg h2];unfold H9;rw [Option.bind_some,if_pos ⟨rfl,rfl⟩,XZ]
   rfl
 ·rw [if_neg h,if_neg h];rw [if_pos ⟨rfl,rfl⟩,XZ]
  rfl
end Go.Proofs.YtekmbcbgknmhiaaGreatDoor
end
noncomputable section
namespace Go.E
open Go Go.RowKit Go.ChangeShapes Go.WideShapes
section
variable {H:Type} {enc:TypeId×Value→H} {P:Program} {w:World} {base:Nat} {spare:Nat→Bool} {held:Bool}
theorem wf_u8{n:Int}(h:(Lit.int .u8 n).wf=true):0≤n∧n≤255:=by
 simpa [Lit.wf,IntKind.min,IntKind.max,IntKind.signed,IntKind.bits] using h
theorem wf_i64{n:Int}(h:(Lit.int .i64 n).wf=true): -9223372036854775808≤n∧n≤9223372036854775807:=by
 simpa [Lit.wf,IntKind.min,IntKind.max,IntKind.signed,IntKind.bits] using h
theorem Oq(hl:laidOutB P=true){W W':World}(hb:Below W.heap.size W W'):∀ {ts:List TypeId} {vs:List Value} {ds:List (DataW H)} {ps:List MemPlace},(∀ t∈ts,P.readableRec t=true∧t<P.types.size)→
  DataW.TrodAll enc P W 0 (fun _=>true) true ts vs ds ps→(∀ x∈ps,x.block<W.heap.size)→DataW.TrodAll enc P W' 0 (fun b=>decide (b<W.heap.size)) true ts vs ds ps
 | [],[],[],ps,_,h,_=>h
 | t::ts,v::vs,d::ds,ps,ht,h,hlt=>by
  obtain⟨p,q,c,h2,rfl⟩:=h;have a:=ht t (.head _);exact⟨p,q,Below.trod hl a.1 a.2 c hb (fun x hx=>hlt x (List.mem_append.2 (.inl hx))),Oq hl hb (fun t' h'=>ht t' (.tail _ h')) h2 (fun x hx=>hlt x (List.mem_append.2 (.inr hx))),rfl⟩
 | [],[],_::_,_,_,h,_=>by cases h
 | [],_::_,_,_,_,h,_=>by cases h
 | _::_,[],_,_,_,h,_=>by cases h
 | _::_,_::_,[],_,_,h,_=>by cases h
end
end Go.E
namespace Go.E
open Go Go.RowKit Go.ChangeShapes Go.WideShapes Go.Deep
def Reads(P:Program)(t:TypeId){α:Type}(r:Rp α)(ok:α→Prop):Prop:=
 ∀
  {H:Type} {enc:TypeId×Value→H} {w:World} {base:Nat} {spare:Nat→Bool} {held:Bool} {fuel:Nat} {cs:List Value} {x:DataW H×List MemPlace},
  DataW.trod enc P w base spare held fuel t cs=some x→∃ a,r.rel (hp w) a cs∧ok a
section
variable {P:Program} {t e:TypeId}
theorem PI(ht:P.underlying t=some (.int .i64)):Reads P t (.int .i64) (fun n=>Go.L.BJ n):=fun h=>by
 obtain⟨n,rfl,_,hw⟩:=DataW.trod_int ht h;exact⟨n,rfl,wf_i64 hw⟩
theorem UN(ht:P.underlying t=some (.int .u8)):Reads P t .byte (fun _=>True):=fun h=>by
 obtain⟨n,rfl,_,hw⟩:=DataW.trod_int ht h;have hw':=wf_u8 hw;refine⟨Go.L.u8 n,?_,trivial⟩
 show[_]=[_]
 rw [Go.L.TA,Int.emod_eq_of_lt (by omega) (by omega)]
end
end Go.E
end
noncomputable section
namespace Go.Proofs.YtekmbcbgknmhiaaGreatDoor.S0
open Go Go.E
theorem one_le{H:Type}(d:DataW H):1≤Rows.uptoBulk d:=by
 cases d with
 | lit l=>cases l <;> simp [Rows.uptoBulk]
 | nil=>simp [Rows.uptoBulk]
 | ptr d=>simp [Rows.uptoBulk]
 | slice elems spare=>simp [Rows.uptoBulk]
 | agg parts=>simp [Rows.uptoBulk]
 | iface t d=>simp [Rows.uptoBulk]
 | map entries=>simp [Rows.uptoBulk]
 | held h=>simp [Rows.uptoBulk]
theorem length_le{H:Type}(l:List (DataW H)):l.length≤Rows.uptoBulkAll l:=by
 induction l with
 | nil=>simp [Rows.uptoBulkAll]
 | cons x r ih=>have:=one_le x;simp only [Rows.uptoBulkAll,List.length_cons];omega
theorem bound{H:Type}{l:List (DataW H)}(hk:Rows.uptoSmall H l=true):Rows.uptoBulkAll l≤1048576:=of_decide_eq_true hk
end Go.Proofs.YtekmbcbgknmhiaaGreatDoor.S0
namespace Go.Proofs.YtekmbcbgknmhiaaGreatDoor.S0
open Go Go.E Go.RowKit Go.ChangeShapes Go.WideShapes Go.Deep Go.L
theorem V3{H:Type}{l:List (DataW H)}{x:DataW H}(h:x∈l):Rows.uptoBulk x≤Rows.uptoBulkAll l:=by
 induction l with
 | nil=>cases h
 | cons y l ih=>
  simp only [Rows.uptoBulkAll]
  rcases List.mem_cons.1 h with rfl | h
  ·omega
  ·have:=ih h;omega
def RB(P:Program)(t:TypeId){α:Type}(r:Rp α)(ok:α→Prop)(k:Nat):Prop:=
 ∀
  {H:Type} {enc:TypeId×Value→H} {w:World} {base:Nat} {spare:Nat→Bool} {held:Bool} {fuel:Nat} {cs:List Value} {x:DataW H×List MemPlace},
  Rows.uptoBulk x.1≤k→DataW.trod enc P w base spare held fuel t cs=some x→∃ a,r.rel (hp w) a cs∧ok a
section
variable {P:Program} {t e:TypeId} {k:Nat}
theorem RB.use{α:Type}{r:Rp α}{ok:α→Prop}(h:RB P t r ok k){H:Type}{enc:TypeId×Value→H}{w:World}{base:Nat}{spare:Nat→Bool}{held:Bool}{fuel:Nat}{cs:List Value}{d:DataW H}{p:List MemPlace}
  (hk:Rows.uptoBulk d≤k) (hx:DataW.trod enc P w base spare held fuel t cs=some (d,p)):∃ a,r.rel (hp w) a cs∧ok a:=@h H enc w base spare held fuel cs (d,p) hk hx
theorem V4{α:Type}{r:Rp α}{ok:α→Prop}(h:Reads P t r ok):RB P t r ok k:=fun _ hx=>h hx
theorem Yf(ht:P.underlying t=some .string):RB P t .st (fun l=>l.length≤k) k:=fun hk h=>by
 obtain⟨s,rfl,rfl,hs⟩:=DataW.trod_string ht h;simp only [Rows.uptoBulk] at hk;exact⟨s.data.toList,by show[_]=[_];simp,by omega⟩
theorem R5{α:Type}{r:Rp α}{ok:α→Prop}(ht:P.underlying t=some (.slice e))(hc:P.cellsOf e=r.sz)(hsz:0<r.sz)(hr:RB P e r ok k):RB P t (.vec r) (fun l=>l.length≤k∧∀ x∈l,ok x) k:=fun {H enc w base spare held fuel cs x} hk h=>by
 rcases open_slice ht h with ⟨rfl,_⟩ | ⟨a,len,cap,m,n,D,Pl,rfl,hb,hl,hm,rfl,rfl,hel⟩
 ·exact⟨[],⟨_,rfl,AI.nil _ _⟩,by simp,by simp⟩
 ·have s:len≤(if spare a.block then cap else len):=by split <;> omega
  simp only [Rows.uptoBulk] at hk;have hlk:=length_le ((List.range len).map D);rw [List.length_map,List.length_range] at hlk
  have hx:∀ i,i<len→∃ y,ok y∧∃ c,r.rel (hp w) y c∧w.cells? base (a.add (i * r.sz)) r.sz=some c:=fun i hi=>by
   obtain⟨cs',g,h2⟩:=hel i (by omega);have hDi:=V3 (List.mem_map_of_mem (f:=D) (List.mem_range.2 hi));obtain⟨y,h3,b⟩:=hr (x:=(D i,Pl i)) (by show Rows.uptoBulk (D i)≤k;omega) h2;rw [hc] at g;exact⟨y,b,cs',h3,g⟩
  have key:∀ k,k≤len→∃ l:List α,l.length=k∧(∀ x∈l,ok x)∧∀ i y,l[i]? = some y→∃ c,r.rel (hp w) y c∧w.cells? base (a.add (i * r.sz)) r.sz=some c:=by
   intro k
   induction k with
   | zero=>intro _;exact⟨[],rfl,by simp,by simp⟩
   | succ k ih=>
    intro hk;obtain⟨l,g,h2,h3⟩:=ih (by omega);obtain⟨y,b,c,d,q⟩:=hx k (by omega);refine⟨l++[y],by simp [g],fun z hz=>?_,fun i z hz=>?_⟩
    ·rcases List.mem_append.1 hz with hz | hz
     ·exact h2 z hz
     ·simp at hz;subst hz;exact b
    ·rcases Nat.lt_or_ge i l.length with hi | hi
     ·rw [List.getElem?_append_left hi] at hz;exact h3 i z hz
     ·rw [List.getElem?_append_right hi] at hz
      have o:i - l.length=0:=by
       have:=(List.getElem?_eq_some_iff.1 hz).1;simp at this;omega
      rw [o] at hz;simp at hz;subst hz;obtain rfl:i=k:=by omega
      exact⟨c,d,q⟩
  obtain⟨l,g,h2,h3⟩:=key len (Nat.le_refl _);refine⟨l,⟨_,rfl,some a,cap,by rw [g],by omega,hm,(fun h=>by cases h),fun A hA hne=>?_⟩,by omega,h2⟩
  cases hA
  have cell:∀ i y,l[i]? = some y→∃ c,r.rel (hp w) y c∧∀ j u,c[j]? = some u→w.cell? ((a.add (i * r.sz)).add j)=some u:=fun i y hy=>by
   obtain⟨c,b,d⟩:=h3 i y hy;obtain⟨_,hlen,hcell⟩:=World.cells?_some d;exact⟨c,b,fun j u hu=>by rw [← hu];exact hcell j (by rw [← hlen];exact(List.getElem?_eq_some_iff.1 hu).1)⟩
  have hspot:a.spot=none:=by
   obtain⟨y,l',rfl⟩:=List.exists_cons_of_ne_nil hne;obtain⟨c,b,d⟩:=cell 0 y rfl;have p:0<c.length:=by rw [r.len b];omega
   have:=World.cell?_spot (d 0 _ (List.getElem?_eq_getElem p))
   simpa [Addr.add] using this
  refine⟨hspot,fun i y hy=>?_⟩;obtain⟨c,b,d⟩:=cell i y hy;refine⟨c,b,fun j u hu=>?_⟩;rw [← Jt hspot];exact d j u hu
theorem Yg{f0 f1 f2 f3 f4 f5 f6:Field}{tw tb tp te tg:TypeId}(ht:P.underlying t=some (.struct #[f0,f1,f2,f3,f4,f5,f6]))(hc:P.cellsOf t=7)
  (b:f0.offset=0) (c:f1.offset=1) (e:f2.offset=2) (g:f3.offset=3) (j:f4.offset=4) (l:f5.offset=5) (m:f6.offset=6)
  (o:P.underlying f0.type=some (.int .i64)) (q:f1.type=tw) (s:P.underlying f2.type=some .string) (u:f3.type=tb) (u4:P.underlying f4.type=some (.int .i64)) (u5:P.underlying f5.type=some (.int .i64)) (e6:f6.type=tp)
  (c0:P.cellsOf f0.type=1) (c1:P.cellsOf tw=1) (c2:P.cellsOf f2.type=1) (c3:P.cellsOf tb=1) (c4:P.cellsOf f4.type=1) (c5:P.cellsOf f5.type=1) (c6:P.cellsOf tp=1)
  (uw:P.underlying tw=some (.slice tg)) (ug:P.underlying tg=some .string) (cg:P.cellsOf tg=1) (ub:P.underlying tb=some (.slice te)) (ue:P.underlying te=some (.int .u8)) (ce:P.cellsOf te=1) (up:P.underlying tp=some (.slice t)) (B:Nat) (k:Nat) (hB:k≤B):RB P t .AV (fun v=>∀ d,Smq B d v) k:=by
 induction k with
 | zero=>
  intro H enc w base spare held fuel cs x hk h;have:=one_le x.1;omega
 | succ k ih0=>
  intro H enc w base spare held fuel cs x hk h;subst q;subst u;subst e6;obtain⟨xs,n,rfl,rfl,hl,hlen,hfs⟩:=DataW.trod_struct ht h;have ih:RB P t .AV (fun v=>∀ d,Smq B d v) k:=@ih0 (by omega);simp only [Rows.uptoBulk] at hk
  have hb:∀ y∈xs,Rows.uptoBulk y.1≤k:=fun y hy=>by
   have:=V3 (List.mem_map_of_mem (f:=fun z:DataW H×List MemPlace=>z.1) hy);omega
  have ax:xs.length=7:=by simpa using hlen
  have get:∀ (i:Nat) (f:Field),(#[f0,f1,f2,f3,f4,f5,f6]:Array Field)[i]? = some f→i<7→P.cellsOf f.type=1→f.offset=i→∃ y:DataW H×List MemPlace,Rows.uptoBulk y.1≤k∧DataW.trod enc P w base spare held n f.type ((cs.drop i).take 1)=some y:=fun i f hf hi hcf hof=>by
   have a:=hfs i f hf;rw [hcf,hof,List.getElem?_eq_getElem (by omega:i<xs.length)] at a;exact⟨_,hb _ (List.getElem_mem _),a⟩
  obtain⟨y0,b0,t0⟩:=get 0 f0 rfl (by omega) c0 b;obtain⟨y1,b1,t1⟩:=get 1 f1 rfl (by omega) c1 c;obtain⟨y2,b2,t2⟩:=get 2 f2 rfl (by omega) c2 e;obtain⟨y3,b3,t3⟩:=get 3 f3 rfl (by omega) c3 g;obtain⟨y4,b4,t4⟩:=get 4 f4 rfl (by omega) c4 j;obtain⟨y5,b5,t5⟩:=get 5 f5 rfl (by omega) c5 l;obtain⟨y6,b6,t6⟩:=get 6 f6 rfl (by omega) c6 m;obtain⟨a0,r0,_⟩:=V4 (k:=k) (PI o) b0 t0;obtain⟨a1,r1,q1,q1'⟩:=R5 uw cg (by decide) (Yf (k:=k) ug) b1 t1;obtain⟨a2,r2,q2⟩:=Yf (k:=k) s b2 t2;obtain⟨a3,r3,q3,_⟩:=R5 ub ce (by decide) (V4 (k:=k) (UN ue)) b3 t3;obtain⟨a4,r4,q4⟩:=V4 (k:=k) (PI u4) b4 t4;obtain⟨a5,r5,q5⟩:=V4 (k:=k) (PI u5) b5 t5;obtain⟨a6,r6,q6,q6'⟩:=R5 up (r:=.AV) hc (by decide) ih b6 t6;refine⟨.mk a0 a1 a2 a3 a4 a5 a6,Rp.DH ?_,fun d=>?_⟩
  ·have hcs:cs=(cs.drop 0).take 1++((cs.drop 1).take 1++((cs.drop 2).take 1++((cs.drop 3).take 1++((cs.drop 4).take 1++((cs.drop 5).take 1++(cs.drop 6).take 1))))):=by
    have h7:cs.length=7:=by rw [hl,hc]
    match cs,h7 with
    | [_,_,_,_,_,_,_],_=>rfl
   exact⟨_,_,hcs,r0,_,_,rfl,r1,_,_,rfl,r2,_,_,rfl,r3,_,_,rfl,r4,_,_,rfl,r5,r6⟩
  ·cases d with
   | zero=>exact trivial
   | succ d=>exact⟨by show a1.length≤B;omega,by show a2.length≤B;omega,by show a3.length≤B;omega,by show a6.length≤B;omega,fun x hx=>by have:=q1' x hx;omega,q4,q5,fun p hp=>q6' p hp d⟩
end
end Go.Proofs.YtekmbcbgknmhiaaGreatDoor.S0
end
noncomputable section
namespace Go.Proofs.YtekmbcbgknmhiaaGreatDoor
open Go Go.E Go.Shelf Go.Lib
def AaP:Ren:=⟨fun n=>n,fun | 119=>349 | 138=>351 | 139=>352 | n=>n,fun | 3=>4 | 4=>5 | n=>n⟩
theorem Zq:U8Types Tryz.prog AaP:=⟨Tryz.underlying5,Tryz.underlying349,Tryz.underlying351,Tryz.underlying352⟩
def V5 : List (String × DataW Unit) := [("math/bits.deBruijn32tab", Rows.laid_math_bits_deBruijn32tab), ("math/bits.deBruijn64tab", Rows.laid_math_bits_deBruijn64tab), ("internal/strconv.uint64pow10", Rows.laid_internal_strconv_uint64pow10), ("unicode/utf8.acceptRanges", Rows.laid_unicode_utf8_acceptRanges), ("strconv.ErrRange", Rows.laid_strconv_ErrRange), ("strconv.ErrSyntax", Rows.laid_strconv_ErrSyntax), ("unicode/utf8.first", Rows.laid_unicode_utf8_first)]
theorem star : "*" ++ "errors.errorString" = "*errors.errorString" := by decide
theorem Yh (u : TypeId) (h : Tryz.prog.typeName? 3 u = some "*errors.errorString") : u = 364 :=
 typeName_ptr_named (nm := "errors.errorString") (by rw [star]; kernel_rfl) (by kernel_rfl) (by decide) u (by rw [star]; exact h)
theorem Aaq{W w:World}{n:String}{cs:Array Value}(hs:Le (hp W) (hp w))(h:W.var? Tryz.prog n=some cs):w.var? Tryz.prog n=some cs:=by
 unfold World.var? at h ⊢
 cases hg:Tryz.prog.globalNamed n with
 | none=>rw [hg] at h;cases h
 | some g=>
  rw [hg] at h;simp only [Option.bind_some] at h ⊢
  cases ho:W.heap[g]? with
  | none=>rw [ho] at h;cases h
  | some o=>rw [ho] at h;rw [show w.heap[g]? = some o from hs g o ho];exact h
theorem PZ{W:World}{n:String}{g:Nat}{v:Value}(hg:Tryz.prog.globalNamed n=some g)(h:W.var? Tryz.prog n=some #[v]):Gn (hp W) ⟨g,0,none⟩=some v:=by
 rw [Tx,World.var?_cell hg h 0]
 rfl
theorem Ts{W:World}(h:laidMetH Tryz.prog V5 W):Dt (hp W):=by
 rw [MakeChecks.laidMetH_plain _ _ _ (by kernel_rfl)] at h;have i:Rows.laid_unicode_utf8_first=firstData:=by kernel_rfl
 have j:(Rows.laid_unicode_utf8_acceptRanges:DataW Unit)=acceptData:=by kernel_rfl
 have k:(Rows.laid_internal_strconv_uint64pow10:DataW Unit)=tabData .u64 pow10Tab:=by kernel_rfl
 have b := laidMet.reads h (n := "unicode/utf8.acceptRanges") (d := Rows.laid_unicode_utf8_acceptRanges) (by simp [V5])
 have h2 := laidMet.reads h (n := "unicode/utf8.first") (d := Rows.laid_unicode_utf8_first) (by simp [V5])
 rw [j] at b;rw [i] at h2;have ht := utf8Tabs_of_readsT Zq ⟨by kernel_rfl, by kernel_rfl, by kernel_rfl, by kernel_rfl, by kernel_rfl, by kernel_rfl, by kernel_rfl⟩ h2 b;have hT : laidMet Tryz.prog (("internal/strconv.uint64pow10", tabData .u64 pow10Tab) :: _) W := k ▸ h.tail.tail
 have a : TabIs Tryz.prog W "internal/strconv.uint64pow10" .u64 pow10Tab := tabIs_of_head (g := 1) (t := 305) (e := 205) (n := 20) (by kernel_rfl) (by kernel_rfl) Tryz.underlying305 Tryz.underlying205 (by kernel_rfl) (by kernel_rfl) hT
 obtain⟨a1,l,c,_⟩:=laid_sentinel (g:=3) h.tail.tail.tail.tail (by kernel_rfl) (by kernel_rfl) Tryz.underlying167 Yh Tryz.underlying364 Tryz.underlying366 rfl rfl Tryz.underlying9 (by kernel_rfl) (by kernel_rfl);obtain⟨a2,m,f,_⟩:=laid_sentinel (g:=2) h.tail.tail.tail.tail.tail (by kernel_rfl) (by kernel_rfl) Tryz.underlying167 Yh Tryz.underlying364 Tryz.underlying366 rfl rfl Tryz.underlying9 (by kernel_rfl) (by kernel_rfl);exact⟨⟨ht.1,ht.2⟩,fun w hw=>Aaq hw a,⟨_,_,PZ (by kernel_rfl) f⟩,⟨_,_,PZ (by kernel_rfl) c⟩⟩
def PJ(os:Os):World:=
 let N:=(World.settled Tryz.prog os).heap.size
 let a:=World.holding Tryz.prog os ⟨#[.cells #[.string ⟨#[118,97,108,117,101,32,111,117,116,32,111,102,32,114,97,110,103,101]⟩] 366,.cells #[.string ⟨#[105,110,118,97,108,105,100,32,115,121,110,116,97,120]⟩] 366],#[],[]⟩
 let put (h:Array Obj) (g:Nat) (cs:Array Value):Array Obj:=h.modify g fun
  | .cells _ t frozen=>.cells cs t frozen
  | o=>o
 let b:=put (put a.heap 3 #[.iface 364 (.pointer (some ⟨N,0,none⟩))]) 2 #[.iface 364 (.pointer (some ⟨N+1,0,none⟩))]
 let c:=put (put b 4 (Lib.firstTab.map fun z=>Value.int .u8 z).toArray) 5 ((List.range 16).flatMap fun i=>[Value.int .u8 (Lib.accLo i),Value.int .u8 (Lib.accHi i)]).toArray
 let h2:=put c 1 (pow10Tab.map (Value.int .u64)).toArray
 let nums (d:DataW Unit):Array Value:=match d with
  | .agg l=>(l.map fun | .lit (.int k z)=>Value.int k z | _=>.int .u8 0).toArray
  | _=>#[]
 let h3:=put (put h2 6 (nums Rows.laid_math_bits_deBruijn32tab)) 7 (nums Rows.laid_math_bits_deBruijn64tab)
 {a with heap:=h3}
set_option maxRecDepth 100000 in
theorem Yi(os:Os)(args:Array Value):laidMetH Tryz.prog V5 ((PJ os).forCall (fun _ _=>0) ⟨#[],args,[]⟩).memory:=
 laidMetH_of_parts3 (fuel:=12) (laidMet_of_run' 12 (by kernel_rfl) (by kernel_rfl)) (by kernel_rfl) (by kernel_rfl)
end Go.Proofs.YtekmbcbgknmhiaaGreatDoor
end
