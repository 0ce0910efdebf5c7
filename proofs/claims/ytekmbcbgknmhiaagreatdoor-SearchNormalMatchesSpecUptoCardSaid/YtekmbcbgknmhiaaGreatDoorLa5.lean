/- Texts of a claim, merged. -/
import Derived.Test.YtekmbcbgknmhiaaGreatDoorLa4
import Derived.KernelRfl
import Derived.Shelf.SlSortCmp.NoneTotal
set_option linter.unusedVariables false
set_option linter.unusedSimpArgs false
open _root_.Go.Proofs.Tryz renaming underlying9→AaG,underlying23→AaQ,underlying28→AaR,underlying5→AaS,underlying22→AaT,underlying26→AaY,underlying58→Aat,underlying3→Aau,underlying180→Ab0,underlying173→Ab1,underlying24→Abx,underlying96→Aby,underlying98→Abz
noncomputable section
namespace Go.Proofs.YtekmbcbgknmhiaaGreatDoor
open Go Go.E Go.RowKit Go.L
set_option maxHeartbeats 1000000
set_option maxRecDepth 10000
open _root_.Go.Proofs.Tryz
def DT(_self1:Go.L.Qv→Option (Aas))(self2:(List Go.L.Qv)→Aas→(List Int)→Option (Aas))(a0:Go.L.Qv):Option (Aas):=
 if a0.f.1=(1:Int) then AY (0≤(0:Int)∧(0:Int)<(a0.f.2.1.length:Int)) (some (a0.f.2.1.getD ((0:Int).toNat) default)) else(if a0.f.1=(2:Int) then Option.bind (PU a0.f.2.1 ([32]:Aas)) (fun g=>AY (([34]:Aas).length+g.length≤9223372036854775807) (AY ((([34]:Aas)++g).length+([34]:Aas).length≤9223372036854775807) (some (((([34]:Aas)++g)++([34]:Aas)))))) else(if a0.f.1=(3:Int) then AY (0≤(0:Int)∧(0:Int)<(a0.f.2.1.length:Int)) (AY ((a0.f.2.1.getD ((0:Int).toNat) default).length+([126]:Aas).length≤9223372036854775807) (Option.bind (OO a0.f.2.2.2.2.1) (fun a=>AY ((a0.f.2.1.getD ((0:Int).toNat) default++([126]:Aas)).length+a.length≤9223372036854775807) (AY (((a0.f.2.1.getD ((0:Int).toNat) default++([126]:Aas))++a).length+([126]:Aas).length≤9223372036854775807) (AY (0≤(1:Int)∧(1:Int)<(a0.f.2.1.length:Int)) (AY ((((a0.f.2.1.getD ((0:Int).toNat) default++([126]:Aas))++a)++([126]:Aas)).length+(a0.f.2.1.getD ((1:Int).toNat) default).length≤9223372036854775807) (some (((((a0.f.2.1.getD ((0:Int).toNat) default++([126]:Aas))++a)++([126]:Aas))++a0.f.2.1.getD ((1:Int).toNat) default))))))))) else(if a0.f.1=(4:Int) then Option.bind (Gj a0.f.2.2.2.1) (fun h=>some (h)) else(if a0.f.1=(5:Int) then AY (([47]:Aas).length+a0.f.2.2.1.length≤9223372036854775807) (some ((([47]:Aas)++a0.f.2.2.1))) else(if a0.f.1=(6:Int) then AY (([47]:Aas).length+a0.f.2.2.1.length≤9223372036854775807) (AY ((([47]:Aas)++a0.f.2.2.1).length+([61]:Aas).length≤9223372036854775807) (Option.bind (OO a0.f.2.2.2.2.1) (fun b=>AY (((([47]:Aas)++a0.f.2.2.1)++([61]:Aas)).length+b.length≤9223372036854775807) (AY ((((([47]:Aas)++a0.f.2.2.1)++([61]:Aas))++b).length+([46,46]:Aas).length≤9223372036854775807) (Option.bind (OO a0.f.2.2.2.2.2.1) (fun c=>AY (((((([47]:Aas)++a0.f.2.2.1)++([61]:Aas))++b)++([46,46]:Aas)).length+c.length≤9223372036854775807) (some ((((((([47]:Aas)++a0.f.2.2.1)++([61]:Aas))++b)++([46,46]:Aas))++c))))))))) else(if a0.f.1=(7:Int) then AY (([47]:Aas).length+a0.f.2.2.1.length≤9223372036854775807) (AY ((([47]:Aas)++a0.f.2.2.1).length+([61]:Aas).length≤9223372036854775807) (Option.bind (Gj a0.f.2.2.2.1) (fun d=>AY (((([47]:Aas)++a0.f.2.2.1)++([61]:Aas)).length+d.length≤9223372036854775807) (some ((((([47]:Aas)++a0.f.2.2.1)++([61]:Aas))++d)))))) else(if a0.f.1=(8:Int) then Option.bind (self2 a0.f.2.2.2.2.2.2 ([38]:Aas) ([(9:Int)])) (fun i=>some (i)) else(if a0.f.1=(9:Int) then Option.bind (self2 a0.f.2.2.2.2.2.2 ([124]:Aas) ([])) (fun j=>some (j)) else Option.bind (self2 a0.f.2.2.2.2.2.2 ([]:Aas) ([(8:Int),(9:Int)])) (fun e=>AY (([33]:Aas).length+e.length≤9223372036854775807) (some ((([33]:Aas)++e))))))))))))
theorem NV{self1:Go.L.Qv→Option (Aas)}{self2:(List Go.L.Qv)→Aas→(List Int)→Option (Aas)}(_hself1:∀ (w:World) (H:PH) (hH:Le H (hp w)) (hU:Dt H) {a0:Go.L.Qv} {b:Value} {d:Value} {e:Value} (g:AI .st H b (a0.f.2.1)) (m:AI .byte H d (a0.f.2.2.2.1)) (j:AI .AV H e (a0.f.2.2.2.2.2.2)) {r:Aas} (h:self1 a0=some r),Ok Tryz.prog 33 [.agg #[No a0.f.1,b,Aar a0.f.2.2.1,d,No a0.f.2.2.2.2.1,No a0.f.2.2.2.2.2.1,e]] w (fun v w'=>Ext w w'∧v=(Aar r)))(hself2:∀ (w:World) (H:PH) (hH:Le H (hp w)) (hU:Dt H) {a0:List Go.L.Qv} {a1:Aas} {a2:List Int} {b:Value} {aa:Value} (g:AI .AV H b (a0)) (_h2_0:AI (.int .i64) H aa (a2)) {r:Aas} (h:self2 a0 a1 a2=some r),Ok Tryz.prog 66 [b,Aar a1,aa] w (fun v w'=>Ext w w'∧v=(Aar r)))(w:World)(H:PH)(hH:Le H (hp w))(hU:Dt H){a0:Go.L.Qv}{b:Value}{d:Value}{e:Value}(g:AI .st H b (a0.f.2.1))(m:AI .byte H d (a0.f.2.2.2.1))(j:AI .AV H e (a0.f.2.2.2.2.2.2)){r:Aas}(h:DT self1 self2 a0=some r):
  Ok Tryz.prog 33 [.agg #[No a0.f.1,b,Aar a0.f.2.2.1,d,No a0.f.2.2.2.2.1,No a0.f.2.2.2.2.2.1,e]] w (fun v w'=>Ext w w'∧v=(Aar r)):=by
 refine A5 (n:=86) [(0,.agg #[No a0.f.1,b,Aar a0.f.2.2.1,d,No a0.f.2.2.2.2.1,No a0.f.2.2.2.2.2.1,e])] func33 rfl rfl rfl rfl rfl ?_;have hL:=AR.start w;refine Al<|Cv (t:=26) rfl rfl rfl hL fun w1 b1 a b8 _=>AB 1 rfl<|A8<|Al<|Af (Ag rfl AaY rfl BG (by decide)) rfl<|Af (Ah 0 rfl Aau rfl a rfl rfl) rfl<|Ad<|A4<|AD 2 rfl<|Bg rfl (fun ab=>?_) (fun ab=>?_)
 ·have h:=A1 ab h;refine Al<|Af (Ag rfl AaY rfl Jn (by decide)) rfl<|Af (Ah 0 rfl AaT rfl a rfl rfl) rfl ?_;obtain⟨ah,h⟩:=Ac h;refine Be rfl rfl AaT Fo g ((0:Int).toNat) (Int.toNat_of_nonneg ah.1).symm (AZ ah) rfl ?_;rintro p4 _ rfl bx;refine Af (Bh rfl AaG rfl bx (hH.trans a.arg)) rfl<|AB 1 rfl<|Az<|Ay<|Au ?_;obtain rfl:=Option.some.inj h;refine An rfl rfl ?_;exact⟨a.ext,rfl⟩
 have h:=A2 ab h;refine AD 2 rfl<|Bg rfl (fun ac=>?_) (fun ac=>?_)
 ·have h:=A1 ac h;refine Al<|Af (Ag rfl AaY rfl Jn (by decide)) rfl<|Af (Ah 0 rfl AaT rfl a rfl rfl) rfl ?_;obtain⟨x9,bz,h⟩:=Go.L.bind_some h;refine Ax rfl rfl a (Tb _ _ (As hH a) (g.mono (Ai hH)) bz) ?_;rintro _ cg rfl b9 ai b0;obtain⟨aj,h⟩:=Ac h;refine Af (Dd rfl rfl aj) rfl ?_;obtain⟨ak,h⟩:=Ac h;refine Af (Dd rfl rfl ak) rfl<|AB 1 rfl<|Az<|Ay<|Au ?_;obtain rfl:=Option.some.inj h;refine An rfl rfl ?_;exact⟨ai.ext,rfl⟩
 have h:=A2 ac h;refine AD 2 rfl<|Bg rfl (fun o=>?_) (fun o=>?_)
 ·have h:=A1 o h;refine EI (.q 0 (.q 1 (.q 2 (.q 3 (.q 4 (.q 5 (.q 6 (.q 7 (.q 8 (.q 9 (.q 10 (.q 11 (.q 12 (.q 13 (.q 14 (.q 15 (.tail 16))))))))))))))))) mixed (by kernel_rfl) (fun ch al=>?_);have c:=a.call al;refine BE (Ag rfl AaY rfl Jn (by decide)) rfl rfl<|BE (Ah 0 rfl AaT rfl c rfl rfl) rfl rfl ?_;obtain⟨ad,h⟩:=Ac h;refine H7 rfl rfl rfl AaT Fo g ((0:Int).toNat) (Int.toNat_of_nonneg ad.1).symm (AZ ad) rfl ?_;rintro ci _ rfl am;refine BE (Bh rfl AaG rfl am (hH.trans c.arg)) rfl rfl ?_;obtain⟨an,h⟩:=Ac h;refine BE (Dd rfl rfl an) rfl rfl<|BE (Ag rfl AaY rfl BG (by decide)) rfl rfl<|BE (Ah 0 rfl Aau rfl c rfl rfl) rfl rfl ?_;obtain⟨cj,ao,h⟩:=Go.L.bind_some h;refine ER rfl rfl rfl (fun ck ap=>Tg _ _ (Le.refl _) (hU.mono (hH.trans (c.call ap).arg)) ao) ?_;obtain⟨aq,h⟩:=Ac h;refine BE (Dd rfl rfl aq) rfl rfl ?_;obtain⟨ar,h⟩:=Ac h;refine BE (Dd rfl rfl ar) rfl rfl<|BE (Ag rfl AaY rfl Jn (by decide)) rfl rfl<|BE (Ah 0 rfl AaT rfl c rfl rfl) rfl rfl ?_;obtain⟨ae,h⟩:=Ac h;refine H7 rfl rfl rfl AaT Fo g ((1:Int).toNat) (Int.toNat_of_nonneg ae.1).symm (AZ ae) rfl ?_;rintro cl _ rfl au
  refine BE (Bh rfl AaG rfl au (hH.trans c.arg)) rfl rfl ?_;obtain⟨av,h⟩:=Ac h;refine BE (Dd rfl rfl av) rfl rfl<|Ds 1 rfl<|BW (fun cm aw=>?_);have ax:=c.call aw;refine Ad<|Az<|Ay<|Au ?_;obtain rfl:=Option.some.inj h;refine An rfl rfl ?_;exact⟨ax.ext,rfl⟩
 have h:=A2 o h;refine AD 2 rfl<|Bg rfl (fun p=>?_) (fun p=>?_)
 ·have h:=A1 p h;refine Al<|Af (Ag rfl AaY rfl Fs (by decide)) rfl<|Af (Ah 0 rfl AaQ rfl a rfl rfl) rfl ?_;obtain⟨cn,ay,h⟩:=Go.L.bind_some h;refine Ax rfl rfl a (Mb _ _ (As hH a) (m.mono (Ai hH)) ay) ?_;rintro _ co rfl ca az b2;refine AB 1 rfl<|Az<|Ay<|Au ?_;obtain rfl:=Option.some.inj h;refine An rfl rfl ?_;exact⟨az.ext,rfl⟩
 have h:=A2 p h;refine AD 2 rfl<|Bg rfl (fun s=>?_) (fun s=>?_)
 ·have h:=A1 s h;refine Al<|Af (Ag rfl AaY rfl Fo (by decide)) rfl<|Af (Ah 0 rfl AaG rfl a rfl rfl) rfl ?_;obtain⟨a3,h⟩:=Ac h;refine Af (Dd rfl rfl a3) rfl<|AB 1 rfl<|Az<|Ay<|Au ?_;obtain rfl:=Option.some.inj h;refine An rfl rfl ?_;exact⟨a.ext,rfl⟩
 have h:=A2 s h;refine AD 2 rfl<|Bg rfl (fun u=>?_) (fun u=>?_)
 ·have h:=A1 u h;refine EI (.q 0 (.q 1 (.q 2 (.q 3 (.q 4 (.q 5 (.q 6 (.q 7 (.q 8 (.q 9 (.q 10 (.q 11 (.q 12 (.q 13 (.tail 14))))))))))))))) mixed (by kernel_rfl) (fun cp a4=>?_);have i:=a.call a4;refine BE (Ag rfl AaY rfl Fo (by decide)) rfl rfl<|BE (Ah 0 rfl AaG rfl i rfl rfl) rfl rfl ?_;obtain⟨a5,h⟩:=Ac h;refine BE (Dd rfl rfl a5) rfl rfl ?_;obtain⟨a6,h⟩:=Ac h;refine BE (Dd rfl rfl a6) rfl rfl<|BE (Ag rfl AaY rfl BG (by decide)) rfl rfl<|BE (Ah 0 rfl Aau rfl i rfl rfl) rfl rfl ?_;obtain⟨cq,a7,h⟩:=Go.L.bind_some h;refine ER rfl rfl rfl (fun cr a8=>Tg _ _ (Le.refl _) (hU.mono (hH.trans (i.call a8).arg)) a7) ?_;obtain⟨a9,h⟩:=Ac h;refine BE (Dd rfl rfl a9) rfl rfl ?_;obtain⟨ba,h⟩:=Ac h;refine BE (Dd rfl rfl ba) rfl rfl<|BE (Ag rfl AaY rfl BG (by decide)) rfl rfl<|BE (Ah 0 rfl Aau rfl i rfl rfl) rfl rfl ?_;obtain⟨cs,bb,h⟩:=Go.L.bind_some h;refine ER rfl rfl rfl (fun ct bc=>Tg _ _ (Le.refl _) (hU.mono (hH.trans (i.call bc).arg)) bb) ?_;obtain⟨bd,h⟩:=Ac h;refine BE (Dd rfl rfl bd) rfl rfl<|Ds 1 rfl<|BW (fun cu be=>?_);have bf:=i.call be;refine Ad<|Az<|Ay ?_
  refine Au ?_;obtain rfl:=Option.some.inj h;refine An rfl rfl ?_;exact⟨bf.ext,rfl⟩
 have h:=A2 u h;refine AD 2 rfl<|Bg rfl (fun x=>?_) (fun x=>?_)
 ·have h:=A1 x h;refine EI (.q 0 (.q 1 (.q 2 (.q 3 (.q 4 (.q 5 (.q 6 (.q 7 (.q 8 (.tail 9)))))))))) mixed (by kernel_rfl) (fun cv bg=>?_);have k:=a.call bg;refine BE (Ag rfl AaY rfl Fo (by decide)) rfl rfl<|BE (Ah 0 rfl AaG rfl k rfl rfl) rfl rfl ?_;obtain⟨bh,h⟩:=Ac h;refine BE (Dd rfl rfl bh) rfl rfl ?_;obtain⟨bi,h⟩:=Ac h;refine BE (Dd rfl rfl bi) rfl rfl<|BE (Ag rfl AaY rfl Fs (by decide)) rfl rfl<|BE (Ah 0 rfl AaQ rfl k rfl rfl) rfl rfl ?_;obtain⟨cw,bj,h⟩:=Go.L.bind_some h;refine ER rfl rfl rfl (fun cx bk=>Mb _ _ (Le.refl _) ((m.mono (hH.trans k.arg)).mono bk.le) bj) ?_;obtain⟨bl,h⟩:=Ac h;refine BE (Dd rfl rfl bl) rfl rfl<|Ds 1 rfl<|BW (fun cy bm=>?_);have bn:=k.call bm;refine Ad<|Az<|Ay<|Au ?_;obtain rfl:=Option.some.inj h;refine An rfl rfl ?_;exact⟨bn.ext,rfl⟩
 have h:=A2 x h;refine AD 2 rfl<|Bg rfl (fun y=>?_) (fun y=>?_)
 ·have h:=A1 y h;refine Al<|Af (Ag rfl AaY rfl DS (by decide)) rfl<|Af (Ah 0 rfl Abx rfl a rfl rfl) rfl<|Br (r:=(.int .i64)) (l:=[(9:Int)]) rfl (fun _=>Ig _ _) rfl (show 1≤9223372036854775807 by decide) hH a (.c1 rfl .nil) ?_;intro cz c0 cb af b3 bo;obtain⟨c2,bp,h⟩:=Go.L.bind_some h;refine Ax rfl rfl af (hself2 _ _ (As hH af) (hU.mono (Ai hH)) (j.mono (Ai hH)) bo bp) ?_;rintro _ c3 rfl cc bq b4;refine AB 1 rfl<|Az<|Ay<|Au ?_;obtain rfl:=Option.some.inj h;refine An rfl rfl ?_;exact⟨bq.ext,rfl⟩
 have h:=A2 y h;refine AD 2 rfl<|Bg rfl (fun z=>?_) (fun z=>?_)
 ·have h:=A1 z h;refine Al<|Af (Ag rfl AaY rfl DS (by decide)) rfl<|Af (Ah 0 rfl Abx rfl a rfl rfl) rfl ?_;obtain⟨c4,br,h⟩:=Go.L.bind_some h;refine Ax rfl rfl a (hself2 _ _ (As hH a) (hU.mono (Ai hH)) (j.mono (Ai hH)) (AI.nil _ _) br) ?_;rintro _ c5 rfl cd bs b5;refine AB 1 rfl<|Az<|Ay<|Au ?_;obtain rfl:=Option.some.inj h;refine An rfl rfl ?_;exact⟨bs.ext,rfl⟩
 have h:=A2 z h;refine Av<|AA<|Ao<|Al<|Af (Ag rfl AaY rfl DS (by decide)) rfl<|Af (Ah 0 rfl Abx rfl a rfl rfl) rfl<|Br (r:=(.int .i64)) (l:=[(8:Int),(9:Int)]) rfl (fun _=>Vp _ _ _) rfl (show 2≤9223372036854775807 by decide) hH a (.c1 rfl (.c1 rfl .nil)) ?_;intro c6 c7 ce ag b6 bt;obtain⟨c8,bu,h⟩:=Go.L.bind_some h;refine Ax rfl rfl ag (hself2 _ _ (As hH ag) (hU.mono (Ai hH)) (j.mono (Ai hH)) bt bu) ?_;rintro _ c9 rfl cf bv b7;obtain⟨bw,h⟩:=Ac h;refine Af (Dd rfl rfl bw) rfl<|AB 1 rfl<|Az ?_;obtain rfl:=Option.some.inj h;refine An rfl rfl ?_;exact⟨bv.ext,rfl⟩
def Dh(c:List Aas)(a:Int)(b:Aas):Option (((List Aas)×Int) ⊕ (Aas)):=
 AY (Go.E.JE 16 (c.length+([b]).length)) (AY (BJ (a+(1:Int))) (some (Sum.inl ((c++[b]),(a+(1:Int))))))
def Et(a1:Aas)(b:List Aas):Option (Aas):=
 Option.bind (PU b a1) (fun a=>some (a))
def Cc(a0:List Go.L.Qv)(a1:Aas)(a2:List Int)(self1:Go.L.Qv→Option (Aas)):(List Aas)×Int→Option (((List Aas)×Int) ⊕ (Aas)):=fun⟨c,a⟩=>
 if a<(a0.length:Int) then AY (0≤a∧a<(a0.length:Int)) (Option.bind (self1 (a0.getD a.toNat default)) (fun b=>Option.bind (Cg a2 ((a0.getD a.toNat default).f.1)) (fun d=>if d then AY (([40]:Aas).length+b.length≤9223372036854775807) (AY ((([40]:Aas)++b).length+([41]:Aas).length≤9223372036854775807) ((Dh c a) ((([40]:Aas)++b)++([41]:Aas)))) else(Dh c a) b))) else Option.map Sum.inr ((Et a1) c)
def Ga(a0:List Go.L.Qv)(a1:Aas)(a2:List Int)(self1:Go.L.Qv→Option (Aas))(s:(List Aas)×Int):Option (Aas):=Go.L.run (Cc a0 a1 a2 self1) s
def D8(self1:Go.L.Qv→Option (Aas))(_self2:(List Go.L.Qv)→Aas→(List Int)→Option (Aas))(a0:List Go.L.Qv)(a1:Aas)(a2:List Int):Option (Aas):=
 (Ga a0 a1 a2 self1) (([]:List Aas),(0:Int))
theorem Nz{self1:Go.L.Qv→Option (Aas)}{self2:(List Go.L.Qv)→Aas→(List Int)→Option (Aas)}(hself1:∀ (w:World) (H:PH) (hH:Le H (hp w)) (hU:Dt H) {a0:Go.L.Qv} {c:Value} {ag:Value} {ah:Value} (p:AI .st H c (a0.f.2.1)) (_h0_1:AI .byte H ag (a0.f.2.2.2.1)) (_h0_2:AI .AV H ah (a0.f.2.2.2.2.2.2)) {r:Aas} (h:self1 a0=some r),Ok Tryz.prog 33 [.agg #[No a0.f.1,c,Aar a0.f.2.2.1,ag,No a0.f.2.2.2.2.1,No a0.f.2.2.2.2.2.1,ah]] w (fun v w'=>Ext w w'∧v=(Aar r)))(_hself2:∀ (w:World) (H:PH) (hH:Le H (hp w)) (hU:Dt H) {a0:List Go.L.Qv} {a1:Aas} {a2:List Int} {c:Value} {j:Value} (p:AI .AV H c (a0)) (ai:AI (.int .i64) H j (a2)) {r:Aas} (h:self2 a0 a1 a2=some r),Ok Tryz.prog 66 [c,Aar a1,j] w (fun v w'=>Ext w w'∧v=(Aar r)))(w:World)(H:PH)(hH:Le H (hp w))(hU:Dt H){a0:List Go.L.Qv}{a1:Aas}{a2:List Int}{c:Value}{j:Value}(p:AI .AV H c (a0))(ai:AI (.int .i64) H j (a2)){r:Aas}(h:D8 self1 self2 a0 a1 a2=some r):
  Ok Tryz.prog 66 [c,Aar a1,j] w (fun v w'=>Ext w w'∧v=(Aar r)):=by
 refine A5 (n:=34) [(0,c),(1,(Aar a1)),(2,j)] func66 rfl rfl rfl rfl rfl ?_;have hL:=AR.start w;refine AD 1 rfl<|Bl 1 rfl ?_;obtain⟨bc,bl,bd⟩:=Ck .st H 9 hL;refine Ad<|Bm (σ:=(List Aas)×Value×(List Value)) (fun⟨z,q,o⟩=>[(1,(Aar a1)),(7,q)]) (fun⟨z,q,o⟩ wr=>DM w [.row (q) 9 1 (z).length (o)] wr fun Oz=>AM .st (gz H w wr Oz) (z) (o)∧(Et a1) z=some r) ?_ ?_
 ·refine Bl 1 rfl<|Af (Bn rfl Abx p) rfl<|AB 1 rfl<|A4 ?_;obtain⟨aj,h⟩:=Bb h;refine Bu (σ:=(List Aas)×Int×Value×(List Value)×Nat) (fun⟨g,a,k,e,n⟩=>[(1,(Aar a1)),(2,j),(7,k),(11,c),(12,No (a0.length:Int)),(13,No a)]) (fun⟨g,a,k,e,n⟩ wr=>DM w [.row (k) 9 1 (g).length (e)] wr fun Oz=>AM .st (gz H w wr Oz) (g) (e)∧FM (Cc a0 a1 a2 self1) n (g,a)=some r) (fun⟨g,a,k,e,n⟩=>n) (([]:List Aas),(0:Int),Aak,[],aj) (.cons rfl (.cons rfl (.cons rfl (.cons rfl (.cons rfl (.cons rfl (Sub.nil _))))))) ⟨bc,bd,h⟩ ?_;rintro⟨g,a,k,e,nn79⟩ bm ⟨ab,b,h⟩;obtain⟨aj,be,rfl,h,ak⟩:=Ba h;refine AD 1 rfl<|A8<|Bg rfl (fun ac=>?_) (fun ac=>?_)
  ·have h:=A1 ac h;refine Av<|Ao<|A8<|A4<|Al ?_;obtain⟨al,h⟩:=Ac h;refine Be rfl rfl Abx Bc p a.toNat (Int.toNat_of_nonneg al.1).symm (AZ al) rfl ?_;rintro bx _ e83t0 a7;obtain⟨_,_,rfl,rfl,⟨_,_,rfl,⟨e83v1,rfl,e83h1⟩,⟨_,_,rfl,rfl,⟨_,_,rfl,⟨e83v3,rfl,e83h3⟩,⟨_,_,rfl,rfl,⟨_,_,rfl,rfl,⟨e83v6,rfl,e83h6⟩⟩⟩⟩⟩⟩⟩:=Go.E.Rp.Cn e83t0;refine Af (Cd rfl AaY rfl Bc a7 (hH.trans ab.arg)) rfl<|AJ Bc rfl rfl ab fun bz bf a8 s _=>Ak 0 rfl rfl rfl Bc a8 rfl rfl (AF rfl (AF e83h1.one (AF rfl (AF e83h3.one (AF rfl (AF rfl (AF e83h6.one BM))))))) fun b0 ad t=>Ad<|Al<|Af (AE 0 rfl AaY rfl Bc ad rfl) rfl ?_;obtain⟨a6,a9,h⟩:=Go.L.bind_some h;refine Ax rfl rfl ad (hself1 (a0:=(a0.getD a.toNat default)) _ _ (As hH ad) (hU.mono (Ai hH)) (e83h1.mono (Ai hH)) (e83h3.mono (Ai hH)) (e83h6.mono (Ai hH)) a9) ?_;rintro _ b1 rfl bn ae u;refine AB 1 rfl ?_
   refine Bm (σ:=Aas) (fun d=>[(1,(Aar a1)),(2,j),(7,k),(10,(Aar d)),(11,c),(12,No (a0.length:Int)),(13,No a)]) (fun d wr=>DM w [.box bf [No ((a0.getD a.toNat default).f.1),e83v1,.string ⟨((a0.getD a.toNat default).f.2.2.1).toArray⟩,e83v3,No ((a0.getD a.toNat default).f.2.2.2.2.1),No ((a0.getD a.toNat default).f.2.2.2.2.2.1),e83v6] 26,.row (k) 9 1 (g).length (e)] wr fun Oz=>AM .st (gz H w wr Oz) (g) (e)∧(Dh g a) d=some be) ?_ ?_
   ·refine Bl 1 rfl<|Af (Ag rfl AaY rfl BG (by decide)) rfl<|Af (Ah 0 rfl Aau rfl ae rfl rfl) rfl ?_;obtain⟨bo,ao,h⟩:=Go.L.bind_some h;refine Ax rfl rfl ae (HP _ _ (As hH ae) (ai.mono (Ai hH)) ao) ?_;rintro _ bp rfl bi af aa;refine Ad<|By rfl (fun x=>?_) (fun x=>?_)
    ·have h:=Bv x h;refine Aq<|Ar 1 rfl ?_;obtain⟨ap,h⟩:=Ac h;refine Af (Dd rfl rfl ap) rfl ?_;obtain⟨aq,h⟩:=Ac h;refine Af (Dd rfl rfl aq) rfl<|Ar 1 rfl<|AL ?_;have b:=b.mono (Ab hH (s.trans (t.trans (u.trans aa))));refine A9 ((([40]:Aas)++a6)++([41]:Aas)) (.cons rfl (.cons rfl (.cons rfl (.cons rfl (.cons rfl (.cons rfl (.cons rfl (Sub.nil _)))))))) ⟨af,b,h⟩
    have h:=Bw x h;refine Av ?_;have b:=b.mono (Ab hH (s.trans (t.trans (u.trans aa))));refine A9 a6 (.cons rfl (.cons rfl (.cons rfl (.cons rfl (.cons rfl (.cons rfl (.cons rfl (Sub.nil _)))))))) ⟨af,b,h⟩
   have b:=b.mono (Ab hH (s.trans (t.trans u)));rintro d bq ⟨ba,b,h⟩;refine Aq<|Ar 2 rfl<|Br (r:=.st) (l:=[d]) rfl (fun _=>OG _ rfl _) rfl (show 1≤9223372036854775807 by decide) hH ba (.c1 rfl .nil) ?_;intro br bs bj ar am au;obtain⟨av,h⟩:=Ac h;have b:=b.mono (Ab hH am);refine Bo (r:=.st) (l:=g) (m:=[d]) 1 rfl rfl AaT Fo rfl (by decide) rfl hH ar rfl b au av fun bb bt aw ax bg y=>Ar 1 rfl<|AL<|AA<|Ao<|Aq ?_;obtain⟨ay,h⟩:=Ac h;refine Af (AK rfl rfl rfl ay) rfl<|Ar 1 rfl<|AL ?_;have az:=ax.AP (i:=0) rfl;have h:=BF.again h ak;have y:=y.mono (Ab hH (Am (i:=0) rfl));refine AO ((g++[d]),(a+(1:Int)),bb,aw,aj) (.cons rfl (.cons rfl (.cons rfl (.cons rfl (.cons rfl (.cons rfl (Sub.nil _))))))) ⟨az,y,h⟩ (Nat.lt_succ_self _)
  have h:=A2 ac h;refine Bq<|AH<|A6 ?_;have h:=BF.out h ak;refine Bf<|A9 (g,k,e) (.cons rfl (.cons rfl (Sub.nil _))) ⟨ab,b,h⟩
 rintro⟨z,q,o⟩ bu ⟨an,a3,h⟩;refine Bl 2 rfl ?_;obtain⟨bv,a4,h⟩:=Go.L.bind_some h;refine Ax rfl rfl an (Tb _ _ (Le.refl _) (an.S8 hH (i:=0) rfl a3) a4) ?_;rintro _ bw rfl bk a5 bh;refine AB 1 rfl<|Az ?_;obtain rfl:=Option.some.inj h;refine An rfl rfl ?_;exact⟨a5.ext,rfl⟩
def B8:Nat→(Go.L.Qv→Option (Aas))×((List Go.L.Qv)→Aas→(List Int)→Option (Aas))
 | 0=>(fun _=>none,fun _ _ _=>none)
 | n+1=>(DT ((B8 n).1) ((B8 n).2),D8 ((B8 n).1) ((B8 n).2))
def L4:Go.L.Qv→Option (Aas):=(B8 1000).1
theorem O7(n:Nat):(∀ (w:World) (H:PH) (hH:Le H (hp w)) (hU:Dt H) {a0:Go.L.Qv} {a:Value} {b:Value} {c:Value} (e:AI .st H a (a0.f.2.1)) (g:AI .byte H b (a0.f.2.2.2.1)) (i:AI .AV H c (a0.f.2.2.2.2.2.2)) {r:Aas} (h:((B8 n).1) a0=some r),Ok Tryz.prog 33 [.agg #[No a0.f.1,a,Aar a0.f.2.2.1,b,No a0.f.2.2.2.2.1,No a0.f.2.2.2.2.2.1,c]] w (fun v w'=>Ext w w'∧v=(Aar r)))∧(∀ (w:World) (H:PH) (hH:Le H (hp w)) (hU:Dt H) {a0:List Go.L.Qv} {a1:Aas} {a2:List Int} {a:Value} {d:Value} (e:AI .AV H a (a0)) (j:AI (.int .i64) H d (a2)) {r:Aas} (h:((B8 n).2) a0 a1 a2=some r),Ok Tryz.prog 66 [a,Aar a1,d] w (fun v w'=>Ext w w'∧v=(Aar r))):=by
 induction n with
 | zero=>exact⟨(by intros;rename_i h;cases h),(by intros;rename_i h;cases h)⟩
 | succ n ih=>exact⟨NV ih.1 ih.2,Nz ih.1 ih.2⟩
theorem R0(w:World)(H:PH)(hH:Le H (hp w))(hU:Dt H){a0:Go.L.Qv}{a:Value}{b:Value}{c:Value}(d:AI .st H a (a0.f.2.1))(e:AI .byte H b (a0.f.2.2.2.1))(g:AI .AV H c (a0.f.2.2.2.2.2.2)){r:Aas}(h:L4 a0=some r):Ok Tryz.prog 33 [.agg #[No a0.f.1,a,Aar a0.f.2.2.1,b,No a0.f.2.2.2.2.1,No a0.f.2.2.2.2.2.1,c]] w (fun v w'=>Ext w w'∧v=(Aar r)):=(O7 1000).1 w H hH hU d e g h
def EX(a0:Go.L.Qv):Option (Aas×(Int×Int)):=
 Option.bind (J7 a0 (0:Int) (1:Int)) (fun a=>if a.2.1=(0:Int)∧a.2.2=(0:Int) then Option.bind (L4 a0) (fun b=>if(200:Int)<(b.length:Int) then Option.bind (D4 (14:Int) (-1:Int)) (fun c=>some (([]:Aas),(c.1,c.2))) else some (b,((0:Int),(0:Int)))) else some (([]:Aas),(a.2.1,a.2.2)))
theorem IW(w:World)(H:PH)(hH:Le H (hp w))(hU:Dt H){a0:Go.L.Qv}{b:Value}{c:Value}{d:Value}(j:AI .st H b (a0.f.2.1))(k:AI .byte H c (a0.f.2.2.2.1))(l:AI .AV H d (a0.f.2.2.2.2.2.2)){r:Aas×(Int×Int)}(h:EX a0=some r):
  Ok Tryz.prog 11 [.agg #[No a0.f.1,b,Aar a0.f.2.2.1,c,No a0.f.2.2.2.2.1,No a0.f.2.2.2.2.2.1,d]] w (fun v w'=>Ext w w'∧v=.tuple #[Aar r.1,.agg #[No r.2.1,No r.2.2]]):=by
 refine A5 (n:=24) [(0,.agg #[No a0.f.1,b,Aar a0.f.2.2.1,c,No a0.f.2.2.2.2.1,No a0.f.2.2.2.2.2.1,d])] func11 rfl rfl rfl rfl rfl ?_;have hL:=AR.start w;refine Al<|Cv (t:=26) rfl rfl rfl hL fun w1 b1 ad an _=>Ar 1 rfl<|AJ AT rfl rfl ad fun w2 b2 m ao _=>Ad<|A8<|Al<|Af (AE 1 rfl AaY rfl Bc m rfl) rfl ?_;obtain⟨x3,ae,h⟩:=Go.L.bind_some h;refine Ax rfl rfl m (Qr (a0:=a0) _ _ (As hH m) (hU.mono (Ai hH)) (j.mono (Ai hH)) (k.mono (Ai hH)) (l.mono (Ai hH)) ae) ?_;rintro _ w4 rfl aw af ap;refine Ar 3 rfl<|AJ AT rfl rfl af fun w5 b5 ag aq _=>Ar 1 rfl<|Ak 0 rfl rfl rfl AT ag rfl rfl (AF rfl (AF rfl BM)) fun w6 a ar=>Ad<|Al<|Af (AE 0 rfl AaR rfl AT a rfl) rfl<|Af (AW rfl (fun _=>BL _)) rfl<|Af (Kv rfl rfl IC (LA _ _ _ _)) rfl<|Ad<|C9 rfl (fun o=>?_) (fun o=>?_)
 ·have h:=A2 o h;refine EI (.q 0 (.q 1 (.tail 2))) mixed (by kernel_rfl) (fun w9 ah=>?_);have p:=a.call ah;refine BE (AE 0 rfl AaR rfl AT p rfl) rfl rfl<|Ds 1 rfl<|BW (fun ax y=>?_);have z:=p.call y;refine Ak 1 rfl rfl rfl AT z rfl rfl (AF rfl (AF rfl BM)) fun ay s ai=>Ad<|Az<|Au ?_;obtain rfl:=Option.some.inj h;refine Cm rfl (.tmp rfl) (.cell rfl AaR rfl AT (AS (i:=1) s rfl)) ?_;exact⟨s.ext,rfl⟩
 have h:=A1 o h;refine Av<|Ao<|Al<|Af (AE 2 rfl AaY rfl Bc a rfl) rfl ?_;obtain⟨az,aa,h⟩:=Go.L.bind_some h;refine Ax rfl rfl a (R0 (a0:=a0) _ _ (As hH a) (hU.mono (Ai hH)) (j.mono (Ai hH)) (k.mono (Ai hH)) (l.mono (Ai hH)) aa) ?_;rintro _ a1 rfl au e aj;refine AB 1 rfl<|A8<|Bl 1 rfl<|Af (CL rfl AaG) rfl<|AB 1 rfl<|Bg rfl (fun g=>?_) (fun g=>?_)
 ·have h:=A1 g h;refine Al ?_;obtain⟨a2,ab,h⟩:=Go.L.bind_some h;refine Ax rfl rfl e (DJ _ _ (As hH e) ab) ?_;rintro _ a3 rfl av ac ak;refine Ar 1 rfl<|Ak 1 rfl rfl rfl AT ac rfl rfl (AF rfl (AF rfl BM)) fun a4 u al=>Ad<|Az<|Au ?_;obtain rfl:=Option.some.inj h;refine Cm rfl (.tmp rfl) (.cell rfl AaR rfl AT (AS (i:=1) u rfl)) ?_;exact⟨u.ext,rfl⟩
 have h:=A2 g h;refine Av<|Ao<|Bl 1 rfl<|Af (AW rfl (fun _=>BL _)) rfl<|Ar 1 rfl<|Ak 1 rfl rfl rfl AT e rfl rfl (AF rfl (AF rfl BM)) fun a5 x am=>Ad<|Az ?_;obtain rfl:=Option.some.inj h;refine Cm rfl (.tmp rfl) (.cell rfl AaR rfl AT (AS (i:=1) x rfl)) ?_;exact⟨x.ext,rfl⟩
def DL(a0:Go.L.Qv):Option ((Int×Int)):=
 Option.bind (EX a0) (fun a=>some ((a.2.1,a.2.2)))
theorem Jf(w:World)(H:PH)(hH:Le H (hp w))(hU:Dt H){a0:Go.L.Qv}{a:Value}{b:Value}{c:Value}(j:AI .st H a (a0.f.2.1))(k:AI .byte H b (a0.f.2.2.2.1))(l:AI .AV H c (a0.f.2.2.2.2.2.2)){r:(Int×Int)}(h:DL a0=some r):
  Ok Tryz.prog 14 [.agg #[No a0.f.1,a,Aar a0.f.2.2.1,b,No a0.f.2.2.2.2.1,No a0.f.2.2.2.2.2.1,c]] w (fun v w'=>Ext w w'∧v=.agg #[No r.1,No r.2]):=by
 refine A5 (n:=11) [(0,.agg #[No a0.f.1,a,Aar a0.f.2.2.1,b,No a0.f.2.2.2.2.1,No a0.f.2.2.2.2.2.1,c])] func14 rfl rfl rfl rfl rfl ?_;have hL:=AR.start w;refine Al<|Cv (t:=26) rfl rfl rfl hL fun w1 b1 m s _=>AJ AT rfl rfl m fun w2 b2 d u _=>Ad<|Al<|Af (AE 1 rfl AaY rfl Bc d rfl) rfl ?_;obtain⟨x3,o,h⟩:=Go.L.bind_some h;refine Ax rfl rfl d (IW (a0:=a0) _ _ (As hH d) (hU.mono (Ai hH)) (j.mono (Ai hH)) (k.mono (Ai hH)) (l.mono (Ai hH)) o) ?_;rintro _ w4 rfl ab p x;refine Ar 3 rfl<|AJ AT rfl rfl p fun w5 b5 q y _=>Ar 1 rfl<|Ak 0 rfl rfl rfl AT q rfl rfl (AF rfl (AF rfl BM)) fun w6 e z=>Ad<|Al<|Af (AE 0 rfl AaR rfl AT e rfl) rfl<|Ak 1 rfl rfl rfl AT e rfl rfl (AF rfl (AF rfl BM)) fun w7 g aa=>Ad<|Az ?_;obtain rfl:=Option.some.inj h;refine B7 rfl (.cell rfl AaR rfl AT (AS (i:=1) g rfl)) ?_;exact⟨g.ext,rfl⟩
def Iy(a:Int)(b:Int)(c:Int)(d:Aas)(e:Int)(f:Int):Option (Go.L.Qv×(Int×Int)):=
 some ((Go.L.Qv.mk c ([]) d ([]) e f ([])),(a,b))
def Gk(a0:Go.L.Qv):Option (Go.L.Qv×(Int×Int)):=
 Option.bind (DL a0) (fun a=>if a.1=(0:Int)∧a.2=(0:Int) then Option.bind (II a0 false) (fun b=>Option.bind (DL b) (fun c=>if c.1=(0:Int)∧c.2=(0:Int) then some (b,((0:Int),(0:Int))) else Option.bind (D4 (14:Int) (-1:Int)) (fun d=>some ((Go.L.Qv.mk (0:Int) ([]) ([]:Aas) ([]) (0:Int) (0:Int) ([])),(d.1,d.2))))) else Iy a.1 a.2 (0:Int) ([]:Aas) (0:Int) (0:Int))
theorem Mc(w:World)(H:PH)(hH:Le H (hp w))(hU:Dt H){a0:Go.L.Qv}{e:Value}{g:Value}{j:Value}(ak:AI .st H e (a0.f.2.1))(al:AI .byte H g (a0.f.2.2.2.1))(am:AI .AV H j (a0.f.2.2.2.2.2.2)){r:Go.L.Qv×(Int×Int)}(h:Gk a0=some r):
  Ok Tryz.prog 27 [.agg #[No a0.f.1,e,Aar a0.f.2.2.1,g,No a0.f.2.2.2.2.1,No a0.f.2.2.2.2.2.1,j]] w (fun v w'=>Ext w w'∧∃ u0 u1 u2,v=.tuple #[.agg #[No r.1.f.1,u0,Aar r.1.f.2.2.1,u1,No r.1.f.2.2.2.2.1,No r.1.f.2.2.2.2.2.1,u2],.agg #[No r.2.1,No r.2.2]]∧AI .st (un H (nw w w')) u0 (r.1.f.2.1)∧AI .byte (un H (nw w w')) u1 (r.1.f.2.2.2.1)∧AI .AV (un H (nw w w')) u2 (r.1.f.2.2.2.2.2.2)):=by
 refine A5 (n:=25) [(0,.agg #[No a0.f.1,e,Aar a0.f.2.2.1,g,No a0.f.2.2.2.2.1,No a0.f.2.2.2.2.2.1,j])] func27 rfl rfl rfl rfl rfl ?_;have hL:=AR.start w;refine Al<|Cv (t:=26) rfl rfl rfl hL fun w1 b1 bl b0 _=>AJ Bc rfl rfl bl fun w2 b2 bm b4 _=>AJ AT rfl rfl bm fun w3 b3 an b5 _=>Ad<|A8<|Al<|Af (AE 2 rfl AaY rfl Bc an rfl) rfl ?_;obtain⟨x,bn,h⟩:=Go.L.bind_some h;refine Ax rfl rfl an (Jf (a0:=a0) _ _ (As hH an) (hU.mono (Ai hH)) (ak.mono (Ai hH)) (al.mono (Ai hH)) (am.mono (Ai hH)) bn) ?_;rintro _ w5 rfl ce bo b7;refine AJ AT rfl rfl bo fun w6 b6 bp b8 _=>Ak 0 rfl rfl rfl AT bp rfl rfl (AF rfl (AF rfl BM)) fun w7 l b9=>Ad<|Al<|Af (AE 0 rfl AaR rfl AT l rfl) rfl<|Af (AW rfl (fun _=>BL _)) rfl<|Af (Kv rfl rfl IC (LA _ _ _ _)) rfl<|Ad<|C9 rfl (fun ao=>?_) (fun ao=>?_)
 ·have h:=A2 ao h;refine Bm (σ:=Int×Int×Int×Aas×Int×Int) (fun⟨ae,af,ag,ah,ai,aj⟩=>[(2,(Aam b2)),(3,(Aam b3))]) (fun⟨ae,af,ag,ah,ai,aj⟩ wr=>AR w [.box b6 [No x.1,No x.2] 28,.box b3 [No ae,No af] 28,.box b2 [No ag,Aak,Aar ah,Aak,No ai,No aj,Aak] 26,.box b1 [No a0.f.1,e,Aar a0.f.2.2.1,g,No a0.f.2.2.2.2.1,No a0.f.2.2.2.2.2.1,j] 26] wr∧Iy ae af ag ah ai aj=some r) ?_ ?_
  ·refine Jj (L8 (SB Lo)) (fun z0 z=>Le (gz H w z0 [.box b6 [No x.1,No x.2] 28,.box b3 [No (0:Int),No (0:Int)] 28,.box b2 [No (0:Int),Aak,.string ⟨(([]:Aas)).toArray⟩,Aak,No (0:Int),No (0:Int),Aak] 26,.box b1 [No a0.f.1,e,Aar a0.f.2.2.1,g,No a0.f.2.2.2.2.1,No a0.f.2.2.2.2.2.1,j] 26]) (hp z)∧z.heap[b6]? = some (.cells [No x.1,No x.2].toArray 28 (0,0))∧z.heap[b3]? = some (.cells [No (0:Int),No (0:Int)].toArray 28 (0,0))∧z.heap[b1]? = some (.cells [No a0.f.1,e,Aar a0.f.2.2.1,g,No a0.f.2.2.2.2.1,No a0.f.2.2.2.2.2.1,j].toArray 26 (0,0))) mixed rfl (fun ap cf a6=>?_);have k:=l.call a6;have p:=k.rG H;refine Lq ⟨p.trans (As hH k),k.at (i:=0) rfl,k.at (i:=1) rfl,k.at (i:=3) rfl⟩ fun kI32=>?_;refine AG 0 ap kI32 (by kernel_rfl) rfl (fun _ _=>AW rfl (fun _=>Lp _)) rfl<|AG 1 ap kI32 (by kernel_rfl) rfl (fun _ hI=>KK rfl AaR rfl AT hI.2.1) rfl<|Ea (i:=2) (by kernel_rfl) rfl<|Ak 2 rfl rfl rfl Bc k rfl rfl (AF rfl (AF rfl (AF rfl (AF rfl (AF rfl (AF rfl (AF rfl BM))))))) ?_;intro cg m aw;have p:=p.trans (Ab hH aw)
   refine Bd ⟨p.trans (As hH m),m.at (i:=0) rfl,m.at (i:=1) rfl,m.at (i:=3) rfl⟩ fun kI34=>?_;refine Ea (i:=3) (by kernel_rfl) rfl<|Ak 1 rfl rfl rfl AT m rfl rfl (AF rfl (AF rfl BM)) fun ch a7 br=>Ex (by kernel_rfl)<|Dz (by kernel_rfl)<|A9 (x.1,x.2,(0:Int),([]:Aas),(0:Int),(0:Int)) (.cons rfl (.cons rfl (Sub.nil _))) ⟨a7,h⟩
  rintro⟨ae,af,ag,ah,ai,aj⟩ cb ⟨y,h⟩;refine Az<|Au ?_;obtain rfl:=Option.some.inj h;refine Cm rfl (.cell rfl AaY rfl Bc (AS (i:=2) y rfl)) (.cell rfl AaR rfl AT (AS (i:=1) y rfl)) ?_;exact⟨y.ext,_,_,_,rfl,(AI.nil _ _),(AI.nil _ _),(AI.nil _ _)⟩
 have h:=A1 ao h;refine Av<|Ao<|Al<|Af (AE 3 rfl AaY rfl Bc l rfl) rfl ?_;obtain⟨bq,a8,h⟩:=Go.L.bind_some h;refine Ax rfl rfl l (P8 (a0:=a0) _ _ (As hH l) (ak.mono (Ai hH)) (al.mono (Ai hH)) (am.mono (Ai hH)) a8) ?_;rintro _ ci ⟨bs,bt,bu,rfl,aq,ar,au⟩ aa a9 bv;have b:=aq.mono (Cj hH l aa);have c:=ar.mono (Cj hH l aa);have d:=au.mono (Cj hH l aa);refine AJ Bc rfl rfl a9 fun cj ck ba q _=>Ak 0 rfl rfl rfl Bc ba rfl rfl (AF rfl (AF b.one (AF rfl (AF c.one (AF rfl (AF rfl (AF d.one BM))))))) fun cl s u=>Ad<|A8 ?_;have a:=s.rG H;refine Al<|Af (AE 0 rfl AaY rfl Bc s rfl) rfl ?_;obtain⟨cm,bb,h⟩:=Go.L.bind_some h;have b:=b.mono (Ab hH (q.trans u));have c:=c.mono (Ab hH (q.trans u));have d:=d.mono (Ab hH (q.trans u));refine Ax rfl rfl s (Jf (a0:=bq) _ _ (As hH s) (hU.mono (Ai hH)) (b.mono a) (c.mono a) (d.mono a) bb) ?_;rintro _ cn rfl cc bc ax;refine AJ AT rfl rfl bc ?_;intro co cp bd ay _
 refine Ak 0 rfl rfl rfl AT bd rfl rfl (AF rfl (AF rfl BM)) fun cq o az=>Ad<|Al<|Af (AE 0 rfl AaR rfl AT o rfl) rfl<|Af (AW rfl (fun _=>BL _)) rfl<|Af (Kv rfl rfl IC (LA _ _ _ _)) rfl<|Ad<|C9 rfl (fun ab=>?_) (fun ab=>?_)
 ·have h:=A2 ab h;refine Al<|Af (AW rfl (fun _=>Lp _)) rfl ?_;obtain⟨cr,be,h⟩:=Go.L.bind_some h;refine Ax rfl rfl o (DJ _ _ (As hH o) be) ?_;rintro _ cs rfl cd bf bw;refine Ak 4 rfl rfl rfl Bc bf rfl rfl (AF rfl (AF rfl (AF rfl (AF rfl (AF rfl (AF rfl (AF rfl BM))))))) fun ct bg bx=>Ak 3 rfl rfl rfl AT bg rfl rfl (AF rfl (AF rfl BM)) fun cu ac bz=>Ad<|Az<|Au ?_;obtain rfl:=Option.some.inj h;refine Cm rfl (.cell rfl AaY rfl Bc (AS (i:=4) ac rfl)) (.cell rfl AaR rfl AT (AS (i:=3) ac rfl)) ?_;exact⟨ac.ext,_,_,_,rfl,(AI.nil _ _),(AI.nil _ _),(AI.nil _ _)⟩
 have h:=A1 ab h;refine Av<|Ao<|Al<|Af (AE 1 rfl AaY rfl Bc o rfl) rfl<|Af (AW rfl (fun _=>BL _)) rfl ?_;have a:=a.trans (Ab hH (ax.trans (ay.trans az)));refine Ak 4 rfl rfl rfl Bc o rfl rfl (AF rfl (AF (b.mono a).one (AF rfl (AF (c.mono a).one (AF rfl (AF rfl (AF (d.mono a).one BM))))))) fun cv bh a1=>Ak 3 rfl rfl rfl AT bh rfl rfl (AF rfl (AF rfl BM)) fun cw ad a2=>Ad<|Az ?_;obtain rfl:=Option.some.inj h;refine Cm rfl (.cell rfl AaY rfl Bc (AS (i:=4) ad rfl)) (.cell rfl AaR rfl AT (AS (i:=3) ad rfl)) ?_;have a:=a.trans (Ab hH (a1.trans a2));exact⟨ad.ext,_,_,_,rfl,((b.mono a).mono (Cu hH)),((c.mono a).mono (Cu hH)),((d.mono a).mono (Cu hH))⟩
end Go.Proofs.YtekmbcbgknmhiaaGreatDoor
end
noncomputable section
namespace Go.L
def iota(n:Nat):List Int:=(List.range n).map fun i:Nat=>(i:Int)
theorem Ki(n:Nat):(iota n).length=n:=by simp [iota]
def On(n:Nat):List (Fin (n+1)):=(List.range n).map fun i=>Fin.ofNat (n+1) i
theorem Wl(n:Nat):(On n).map (fun x=>(x.val:Int))=iota n:=by
 unfold On iota;rw [List.map_map];apply List.map_congr_left;intro i hi;have:=List.mem_range.1 hi
 show((i % (n+1):Nat):Int)=(i:Int)
 rw [Nat.mod_eq_of_lt (by omega)]
def Lb(a:List UInt8)(x y:Fin (a.length+1)):Int:=Lib.compareBytes (a.drop x.val) (a.drop y.val)
def XL(a:List UInt8):List (Fin (a.length+1)):=(On a.length).mergeSort fun x y=>!(Go.Proofs.ltOf (Lb a)) y x
def J8(a:List UInt8):List Int:=(XL a).map fun x=>(x.val:Int)
theorem Zm{α:Type}(f:α→List UInt8):Go.Sort.SWO (Go.Proofs.ltOf fun x y=>Lib.compareBytes (f x) (f y)):=by
 constructor
 ·intro x;simp [Go.Proofs.ltOf,Ua]
 ·intro x y z a h2;unfold Go.Proofs.ltOf at *;simp only [decide_eq_true_eq] at *;exact Ma _ _ _ a h2
 ·intro x y z a h2;unfold Go.Proofs.ltOf at *;simp only [decide_eq_false_iff_not] at *;intro h3;have s1:=KV (f x) (f y);have b:=KV (f y) (f z)
  rcases Int.lt_trichotomy (Lib.compareBytes (f y) (f x)) 0 with h | h | h
  ·have:=Ma _ _ _ h h3;omega
  ·rw [Nu _ _ h] at h2;omega
  ·omega
theorem OX(a:List UInt8)(x y:Fin (a.length+1))(b:Go.Proofs.ltOf (Lb a) x y=false)(h2:Go.Proofs.ltOf (Lb a) y x=false):x=y:=by
 unfold Go.Proofs.ltOf at b h2;simp only [decide_eq_false_iff_not] at b h2;have s:=KV (a.drop x.val) (a.drop y.val);unfold Lb at b h2;have:=Nu _ _ (show Lib.compareBytes (a.drop x.val) (a.drop y.val)=0 by omega);have hl:(a.drop x.val).length=(a.drop y.val).length:=by rw [this]
 simp only [List.length_drop] at hl;have:=x.isLt;have:=y.isLt;exact Fin.ext (by omega)
end Go.L
end
noncomputable section
namespace Go.Proofs.YtekmbcbgknmhiaaGreatDoor
open Go Go.E Go.RowKit Go.Sort Go.Shelf
theorem RQ(a b:List UInt8):LB a b=some (Lib.compareBytes a b):=rfl
theorem AaL{O:List AN}{i b:Nat}{cs:List Value}{t:TypeId}(h:Dq O i=some (.box b cs t)):AN.box b cs t∈O:=(Df h).mem_iff.2 (.head _)
theorem Wm{n:Sz}{ops:Array Oper}{Q:Exit→Act→World→Prop}{L:Env}{w f:World}{O:List AN}{rest:List Oper}{d:Nat}{ty:TypeId}{pos:String}{af:Array Edge}{v tv:Value}{H:PH}{i b:Nat}{xs:List Value}{a:List UInt8}{args:List Operand}{at_:Array TypeId}
  (ha:Pg L args=some [v,.func (.func 174) #[] #[.pointer (some ⟨b,0,none⟩)]]) (hn:Nat.blt d n.n=true) (hH:Le H (hp f)) (hL:AR f O w) (hi:Dq O i=some (.row v 3 1 (Go.L.iota a.length).length xs)) (he:AM (.int .i64) (gz H f w O) (Go.L.iota a.length) xs) (htx:AI .byte (gz H f w O) tv a) (hbox:AN.box b [tv] 23∈O) (hl:a.length<4611686018427387904)
  (h:∀ w' xs',AR f (CJ O i (.row v 3 1 (Go.L.J8 a).length xs')) w'→Le (fz w O) (fz w' (CJ O i (.row v 3 1 (Go.L.J8 a).length xs')))→AM (.int .i64) (gz H f w' (CJ O i (.row v 3 1 (Go.L.J8 a).length xs'))) (Go.L.J8 a) xs'→S Tryz.prog n ops Q rest ((d,.tuple #[])::L) w') :
  S Tryz.prog n ops Q (⟨some d,.call ⟨.value (.func 173),args.toArray,at_⟩,ty,pos,af,none⟩::rest) L w:=by
 have hxs:xs=(Go.L.On a.length).map (fun x:Fin (a.length+1)=>Value.int .i64 (x.val:Int)):=by
  rw [← Ru he,← Go.L.Wl,List.map_map];rfl
 have hfl:(Go.L.On a.length).length=a.length:=by simp [Go.L.On]
 have hll:(Go.L.J8 a).length=(Go.L.iota a.length).length:=by
  unfold Go.L.J8 Go.L.XL;rw [List.length_map,List.length_mergeSort,hfl,Go.L.Ki]
 have hys:(Go.L.J8 a).map (Value.int .i64)=(Go.L.XL a).map (fun x:Fin (a.length+1)=>Value.int .i64 (x.val:Int)):=by
  unfold Go.L.J8;rw [List.map_map];rfl
 refine Rt (l':=Go.L.J8 a) (enc:=fun x:Fin (a.length+1)=>Value.int .i64 (x.val:Int)) (dd:=(Go.L.XL a).toArray) (ys:=(Go.L.J8 a).map (Value.int .i64)) ⟨Tryz.f173,_,Tryz.func173,rfl,rfl⟩ ha hn hL hi (by rw [hys]) hll (by rw [hxs];simp [hll,hfl,Go.L.Ki]) (fun l=>?_) (fun hv=>?_) (fun g cap hv hcap=>?_) (fun w' p h2=>h w' _ p h2 (OR _ _))
 ·have p:(Go.L.J8 a).length=0:=by rw [hll];exact l
  have h2:xs.length=0:=by rw [hxs,List.length_map,hfl];rw [Go.L.Ki] at l;exact l
  rw [List.eq_nil_of_length_eq_zero p,List.eq_nil_of_length_eq_zero h2];rfl
 ·subst hv;exact AnyF.slices_SortFunc_none Tryz.Aaj none 0 _ w
 ·have hown:w.ownsRow 0 3 1 v (Go.L.iota a.length).length xs:=hL.at hi;rw [hv] at hown;obtain⟨hhk,hblk⟩:=NO (enc:=fun x:Fin (a.length+1)=>Value.int .i64 (x.val:Int)) (d:=(Go.L.On a.length).toArray) hown (by simpa using hxs.symm);have hsz:(Go.L.iota a.length).length=(Go.L.On a.length).toArray.size:=by rw [Go.L.Ki];simp [hfl]
  have hgo:∀ j x,AN.row v 3 1 j x∈O→True:=fun _ _ _=>trivial;subst hv;have hs:=Any.slices_SortFunc_total (P:=Tryz.prog) Tryz.AaF (fun x:Fin (a.length+1)=>Value.int .i64 (x.val:Int)) (fun _=>rfl) (Go.L.Lb a) (Go.L.Zm _) 174 #[.pointer (some ⟨b,0,none⟩)] g 0 cap (Go.L.On a.length).toArray w (enters_of Tryz.func174 (by kernel_rfl) rfl) ?_ hhk hblk (by rw [← hsz,Go.L.Ki];exact hl) (Go.L.OX a)
  ·rw [← hsz] at hs;exact hs.mono fun e w' ⟨he,m,os,hw⟩=>⟨he,m,os,hw⟩
  ·intro m os dk hs x y;have hx:=x.isLt;have hy:=y.isLt
   have hr:KP (x.val:Int) (y.val:Int) a=some (Go.L.Lb a x y):=by
    unfold KP;rw [Go.L.Aw (by omega),Go.L.Aw (by omega),Int.toNat_natCast,Int.toNat_natCast,RQ]
    rfl
   have hne:∀ c,(∃ cs t,AN.box c cs t∈O)→c≠g:=fun c ⟨cs,t,hc⟩ e=>by
    subst e;have hd:=List.pairwise_cons.1 (hL.perm (Df hi).symm).Yj
    have hm:AN.box c cs t∈KF O i:=by
     rcases List.mem_cons.1 ((Df hi).mem_iff.1 hc) with h | h
     ·cases h
     ·exact h
    exact hd.1 _ hm c rfl rfl
   have hkeep:∀ k o,w.heap[k]? = some o→k≠g→(sortWorld (fun x:Fin (a.length+1)=>Value.int .i64 (x.val:Int)) w g 0 m dk os).heap[k]? = some o:=fun k o hk hkg=>by
    rw [KU _ w g m dk os k (lt_of_heap hk),if_neg hkg];exact hk
   have hle:Le (fz w O) (hp (sortWorld (fun x:Fin (a.length+1)=>Value.int .i64 (x.val:Int)) w g 0 m dk os)):=fun c o hc=>by
    refine hkeep c o (UQ w O c o hc) fun e=>?_;subst e;have hown:owned O c=true:=CA.2 ⟨_,(Df hi).mem_iff.2 (.head _),rfl⟩;unfold fz at hc;rw [if_pos hown] at hc
    cases hc
   have hbx:GM (hp (sortWorld (fun x:Fin (a.length+1)=>Value.int .i64 (x.val:Int)) w g 0 m dk os)) ⟨b,0,none⟩ [tv]:=by
    have hok:w.heap[b]? = some (.cells #[tv] 23 (0,0)):=hL.res _ hbox;have hh:=hkeep b _ hok (hne b ⟨_,_,hbox⟩);refine⟨rfl,fun j u hu=>?_⟩;simp only [Addr.add_lit,Nat.zero_add,Gn,hp,hh]
    simpa using hu
   have hk:=@OJ ⟨true⟩ (sortWorld (fun x:Fin (a.length+1)=>Value.int .i64 (x.val:Int)) w g 0 m dk os) (hp _) (Le.refl _) _ _ _ _ _ (htx.mono ((WA hH hL).trans hle)) hbx _ hr;refine hk.2.mono fun en w' ⟨u,he,hx,hu⟩=>?_;subst he;subst hu;obtain⟨q,os',hw⟩:=@TZ ⟨true⟩ _ _ rfl hx;exact⟨rfl,q,os',hw⟩
end Go.Proofs.YtekmbcbgknmhiaaGreatDoor
end
noncomputable section
namespace Go.Proofs.YtekmbcbgknmhiaaGreatDoor
open Go Go.E Go.RowKit Go.L
set_option maxHeartbeats 1000000
set_option maxRecDepth 10000
open _root_.Go.Proofs.Tryz
def Ho(a0:Aas)(a:List Int):Option ((List Int)):=
 AY (a=Go.L.iota a0.length∧a0.length<4611686018427387904) (some ((J8 a0)))
def Iz(a0:Aas):(List Int)×Int→Option (((List Int)×Int) ⊕ ((List Int))):=fun⟨b,a⟩=>
 if a<((List.replicate (a0.length:Int).toNat (0:Int)).length:Int) then AY (0≤a∧a<(b.length:Int)) (AY (BJ (a+(1:Int))) (some (Sum.inl ((b.set a.toNat a),(a+(1:Int)))))) else Option.map Sum.inr ((Ho a0) b)
def Kq(a0:Aas)(s:(List Int)×Int):Option ((List Int)):=Go.L.run (Iz a0) s
def K9(a0:Aas):Option ((List Int)):=
 AY (0≤(a0.length:Int)∧((8:Nat):Int) * (a0.length:Int)≤281474976710656∧(a0.length:Int)≤9223372036854775807) ((Kq a0) ((List.replicate (a0.length:Int).toNat (0:Int)),(0:Int)))
theorem Qs(w:World)(H:PH)(hH:Le H (hp w)){a0:Aas}{f:Value}(k:AI .byte H f (a0)){r:(List Int)}(h:K9 a0=some r):
  Ok Tryz.prog 123 [f] w (fun v w'=>Ext w w'∧∃ u0,v=u0∧Co 3 (.int .i64) H w w' u0 (r)):=by
 refine A5 (n:=22) [(0,f)] func123 rfl rfl rfl rfl rfl ?_;have hL:=AR.start w;refine Al<|SC (t:=23) rfl k.one rfl hL fun w1 b1 ac av _=>AB 1 rfl<|Al<|Af (Ah 0 rfl AaQ rfl ac rfl rfl) rfl<|Af (Bn rfl AaQ k) rfl ?_;obtain⟨ao,h⟩:=Ac h;refine S9 (r:=(.int .i64)) (z:=(0:Int)) rfl rfl rfl Aat BG rfl (fun _=>rfl) rfl hH ac ao fun v2 w2 ap ad aw aq=>AB 1 rfl<|Bm (σ:=(List Int)×(List Value)) (fun⟨g,e⟩=>[(1,(Aam b1)),(3,v2)]) (fun⟨g,e⟩ wr=>DM w [.row (v2) 3 1 (g).length (e),.box b1 [f] 23] wr fun Oz=>AM (.int .i64) (gz H w wr Oz) (g) (e)∧(Ho a0) g=some r) ?_ ?_
 ·refine Bl 1 rfl<|Af (Po (i:=0) rfl Aat ad rfl) rfl<|AB 1 rfl<|A4 ?_;obtain⟨s,h⟩:=Bb h;refine Bu (σ:=(List Int)×Int×(List Value)×Nat) (fun⟨d,b,c,n⟩=>[(1,(Aam b1)),(3,v2),(9,No ((List.replicate (a0.length:Int).toNat (0:Int)).length:Int)),(10,No b)]) (fun⟨d,b,c,n⟩ wr=>DM w [.row (v2) 3 1 (d).length (c),.box b1 [f] 23] wr fun Oz=>AM (.int .i64) (gz H w wr Oz) (d) (c)∧FM (Iz a0) n (d,b)=some r) (fun⟨d,b,c,n⟩=>n) ((List.replicate (a0.length:Int).toNat (0:Int)),(0:Int),ap,s) (.cons rfl (.cons rfl (.cons rfl (.cons rfl (Sub.nil _))))) ⟨ad,aq,h⟩ ?_;rintro⟨d,b,c,nn36⟩ ax ⟨l,p,h⟩;obtain⟨s,a1,rfl,h,u⟩:=Ba h;refine AD 1 rfl<|A8<|Bg rfl (fun m=>?_) (fun m=>?_)
  ·have h:=A1 m h;refine Av<|Ao<|A8<|A4<|AD 2 rfl<|Aq<|Ar 3 rfl ?_;obtain⟨o,h⟩:=Ac h;refine KH 0 rfl rfl Aat BG l rfl b.toNat (Int.toNat_of_nonneg o.1).symm (AZ o) rfl fun a2 ae=>KI (z:=b) (j:=b.toNat) 0 rfl rfl rfl BG hH l rfl p ae rfl (AZ o) rfl fun a3 af ag ar ah=>AL<|AA<|Ao<|Aq ?_;obtain⟨ai,h⟩:=Ac h;refine Af (AK rfl rfl rfl ai) rfl<|Ar 1 rfl<|AL ?_;have h:=BF.again h u;refine AO ((d.set b.toNat b),(b+(1:Int)),af,s) (.cons rfl (.cons rfl (.cons rfl (.cons rfl (Sub.nil _))))) ⟨ag,ah,h⟩ (Nat.lt_succ_self _)
  have h:=A2 m h;refine Bq<|AH<|A6 ?_;have h:=BF.out h u;refine Bf<|A9 (d,c) (.cons rfl (.cons rfl (Sub.nil _))) ⟨l,p,h⟩
 rintro⟨g,e⟩ ay ⟨x,q,h⟩;refine Bl 2 rfl ?_;obtain⟨aj,h⟩:=Ac h;obtain⟨ak,al⟩:=aj;rw [ak] at x q;refine Wm (i:=0) (a:=a0) rfl rfl hH x rfl q (k.mono (Ai hH)) (AaL (i:=1) rfl) al fun a4 az y au am=>Ad<|AD 2 rfl<|Az ?_;obtain rfl:=Option.some.inj h;refine An rfl rfl ?_;exact⟨y.ext,_,rfl,(y.Gp hH (i:=0) rfl am)⟩
def KA(a0:Aas):Option ((List Int)×(Int×Int)):=
 if(2048:Int)<(a0.length:Int) then none else Option.bind (K9 a0) (fun a=>some (a,((0:Int),(0:Int))))
theorem Qt(w:World)(H:PH)(hH:Le H (hp w)){a0:Aas}{a:Value}(b:AI .byte H a (a0)){r:(List Int)×(Int×Int)}(h:KA a0=some r):
  Ok Tryz.prog 74 [a] w (fun v w'=>Ext w w'∧∃ m,v=.tuple #[m,.agg #[No r.2.1,No r.2.2]]∧Co 3 (.int .i64) H w w' m (r.1)):=by
 refine A5 (n:=11) [(0,a)] func74 rfl rfl rfl rfl rfl ?_;have hL:=AR.start w;refine Bl 1 rfl<|AJ AT rfl rfl hL fun u x c q _=>Ad<|A8<|Bl 1 rfl<|Af (Bn rfl AaQ b) rfl<|AB 1 rfl<|Bg rfl (fun d=>?_) (fun d=>?_)
 ·have h:=A1 d h
  cases h
 have h:=A2 d h;refine Av<|Ao<|Bl 1 rfl ?_;obtain⟨y,o,h⟩:=Go.L.bind_some h;refine Ax rfl rfl c (Qs _ _ (As hH c) (b.mono (Ai hH)) o) ?_;rintro s z ⟨_,rfl,g⟩ p j k;obtain⟨t,j,k,e⟩:=g.take hH c p;refine Af (AW rfl (fun _=>BL _)) rfl<|Ar 1 rfl<|Ak 1 rfl rfl rfl AT j rfl rfl (AF rfl (AF rfl BM)) fun w7 f l=>Ad<|Az ?_;obtain rfl:=Option.some.inj h;refine Cm rfl (.tmp rfl) (.cell rfl AaR rfl AT (AS (i:=1) f rfl)) ?_;have e:=e.mono (Ab hH l);exact⟨f.ext,_,rfl,(f.Gp hH (i:=0) rfl e)⟩
def EY(a0:(List Int)):Option (Int):=
 some ((max (a0.length:Int) (1:Int)))
theorem Ll(w:World)(H:PH)(_hH:Le H (hp w)){a0:(List Int)}{a:Value}(c:AI (.int .i64) H a (a0)){r:Int}(h:EY a0=some r):
  Ok Tryz.prog 97 [.agg #[a]] w (fun v w'=>Ext w w'∧v=No r):=by
 refine A5 (n:=7) [(0,.agg #[a])] func97 rfl rfl rfl rfl rfl ?_;have hL:=AR.start w;refine Al<|Cv (t:=96) rfl rfl rfl hL fun e f b d _=>AB 1 rfl<|Al<|Af (Ag rfl Aby rfl RD (by decide)) rfl<|Af (Ah 0 rfl Aat rfl b rfl rfl) rfl<|Af (Bn rfl Aat c) rfl<|Af (Aa1 rfl rfl) rfl<|AB 1 rfl<|Az ?_;obtain rfl:=Option.some.inj h;refine An rfl rfl ?_;exact⟨b.ext,rfl⟩
def C4(a0:((List Int))×(List Int)×(List Int)):Option (Int):=
 Option.bind (EY a0.1) (fun a=>AY (BJ (a - (1:Int))) (some ((a - (1:Int)))))
theorem E4(w:World)(H:PH)(hH:Le H (hp w)){a0:((List Int))×(List Int)×(List Int)}{a:Value}{b:Value}{c:Value}(e:AI (.int .i64) H a (a0.1))(_h0_1:AI (.int .i64) H b (a0.2.1))(_h0_2:AI (.int .i64) H c (a0.2.2)){r:Int}(h:C4 a0=some r):
  Ok Tryz.prog 59 [.agg #[a,b,c]] w (fun v w'=>Ext w w'∧v=No r):=by
 refine A5 (n:=7) [(0,.agg #[a,b,c])] func59 rfl rfl rfl rfl rfl ?_;have hL:=AR.start w;refine Al<|Cv (t:=98) rfl rfl rfl hL fun m o d j _=>AB 1 rfl<|Al<|Af (Ag rfl Abz rfl Aab (by decide)) rfl<|Af (QN 0 1 rfl Aby rfl Aab d rfl rfl) rfl ?_;obtain⟨p,f,h⟩:=Go.L.bind_some h;refine Ax rfl rfl d (Ll (a0:=a0.1) _ _ (As hH d) (e.mono (Ai hH)) f) ?_;rintro _ q rfl l g k;obtain⟨i,h⟩:=Ac h;refine Af (AK rfl rfl rfl i) rfl<|AB 1 rfl<|Az ?_;obtain rfl:=Option.some.inj h;refine An rfl rfl ?_;exact⟨g.ext,rfl⟩
def FF(a:Aas):Option (Aas):=
 some (a)
def EZ(a0:((List Int))×(List Int)×(List Int)):Aas×Int×Int→Option ((Aas×Int×Int) ⊕ (Aas)):=fun⟨c,a,b⟩=>
 if(0:Int)≤b then AY (0≤a∧a<(a0.1.length:Int)) (AY (0≤b∧b<(c.length:Int)) (AY (0≤a∧a<(a0.2.1.length:Int)) (AY (BJ (b - (1:Int))) (some (Sum.inl ((c.set b.toNat (Go.L.u8 (a0.1.getD a.toNat default))),a0.2.1.getD a.toNat default,(b - (1:Int)))))))) else Option.map Sum.inr (FF c)
def H4(a0:((List Int))×(List Int)×(List Int))(s:Aas×Int×Int):Option (Aas):=Go.L.run (EZ a0) s
def GZ(a0:((List Int))×(List Int)×(List Int)):Option (Aas):=
 Option.bind (C4 (a0.1,a0.2.1,a0.2.2)) (fun a=>AY (0≤a∧((1:Nat):Int) * a≤281474976710656∧a≤9223372036854775807) (AY (BJ (((List.replicate a.toNat (0:UInt8)).length:Int) - (1:Int))) ((H4 a0) ((List.replicate a.toNat (0:UInt8)),(0:Int),(((List.replicate a.toNat (0:UInt8)).length:Int) - (1:Int))))))
theorem MN(w:World)(H:PH)(hH:Le H (hp w)){a0:((List Int))×(List Int)×(List Int)}{f:Value}{g:Value}{k:Value}(u:AI (.int .i64) H f (a0.1))(x:AI (.int .i64) H g (a0.2.1))(ai:AI (.int .i64) H k (a0.2.2)){r:Aas}(h:GZ a0=some r):
  Ok Tryz.prog 100 [.agg #[f,g,k]] w (fun v w'=>Ext w w'∧∃ u0,v=u0∧Co 5 .byte H w w' u0 (r)):=by
 refine A5 (n:=32) [(0,.agg #[f,g,k])] func100 rfl rfl rfl rfl rfl ?_;have hL:=AR.start w;refine Al<|Cv (t:=98) rfl rfl rfl hL fun w1 b1 y a2 _=>AB 1 rfl<|Al<|Af (AE 0 rfl Abz rfl FQ y rfl) rfl ?_;obtain⟨x2,av,h⟩:=Go.L.bind_some h;refine Ax rfl rfl y (E4 (a0:=(a0.1,a0.2.1,a0.2.2)) _ _ (As hH y) (u.mono (Ai hH)) (x.mono (Ai hH)) (ai.mono (Ai hH)) av) ?_;rintro _ w3 rfl a7 aw a3;obtain⟨ax,h⟩:=Ac h;refine S9 (r:=.byte) (z:=(0:UInt8)) rfl rfl rfl AaQ Lj rfl (fun _=>rfl) rfl hH aw ax fun v4 w4 ay ah a4 az=>AB 1 rfl<|AD 1 rfl<|Bm (σ:=Aas×(List Value)) (fun⟨m,e⟩=>[(3,v4)]) (fun⟨m,e⟩ wr=>DM w [.row (v4) 5 1 (m).length (e),.box b1 [f,g,k] 98] wr fun Oz=>AM .byte (gz H w wr Oz) (m) (e)∧FF m=some r) ?_ ?_
 ·refine Bl 1 rfl<|Af (Po (i:=0) rfl AaQ ah rfl) rfl ?_;obtain⟨ak,h⟩:=Ac h;refine Af (AK rfl rfl rfl ak) rfl<|AB 1 rfl<|A4 ?_;obtain⟨aa,h⟩:=Bb h;refine Bu (σ:=Aas×Int×Int×(List Value)×Nat) (fun⟨d,a,b,c,n⟩=>[(1,(Aam b1)),(3,v4),(4,No a),(5,No b)]) (fun⟨d,a,b,c,n⟩ wr=>DM w [.row (v4) 5 1 (d).length (c),.box b1 [f,g,k] 98] wr fun Oz=>AM .byte (gz H w wr Oz) (d) (c)∧FM (EZ a0) n (d,a,b)=some r) (fun⟨d,a,b,c,n⟩=>n) ((List.replicate x2.toNat (0:UInt8)),(0:Int),(((List.replicate x2.toNat (0:UInt8)).length:Int) - (1:Int)),ay,aa) (.cons rfl (.cons rfl (.cons rfl (.cons rfl (Sub.nil _))))) ⟨ah,az,h⟩ ?_;rintro⟨d,a,b,c,nn54⟩ a5 ⟨l,s,h⟩;obtain⟨aa,a8,rfl,h,ab⟩:=Ba h;refine A8<|AD 2 rfl<|Bg rfl (fun o=>?_) (fun o=>?_)
  ·have h:=A1 o h;refine Av<|Ao<|A8<|A4<|Bl 2 rfl<|Af (Ag rfl Abz rfl Aab (by decide)) rfl<|Af (Ag rfl Aby rfl RD (by decide)) rfl<|Af (Ah 1 rfl Aat rfl l rfl rfl) rfl<|Ar 1 rfl ?_;obtain⟨ac,h⟩:=Ac h;refine Be rfl rfl Aat BG u a.toNat (Int.toNat_of_nonneg ac.1).symm (AZ ac) rfl ?_;rintro a9 _ rfl al;refine Af (Bh rfl Aau rfl al (hH.trans l.arg)) rfl<|Af (ES Aau AaS rfl (HO _)) rfl ?_;obtain⟨p,h⟩:=Ac h;refine KH 0 rfl rfl AaQ Lj l rfl b.toNat (Int.toNat_of_nonneg p.1).symm (AZ p) rfl fun ba am=>KI (z:=(Go.L.u8 (a0.1.getD a.toNat default))) (j:=b.toNat) 0 rfl rfl rfl Lj hH l rfl s am rfl (AZ p) rfl fun bb an q a1 ao=>Ad<|Aq<|Af (Ag rfl Abz rfl RD (by decide)) rfl<|Af (Ah 1 rfl Aat rfl q rfl rfl) rfl<|Ar 1 rfl ?_;obtain⟨ad,h⟩:=Ac h;refine Be rfl rfl Aat BG x a.toNat (Int.toNat_of_nonneg ad.1).symm (AZ ad) rfl ?_;rintro bc _ rfl ap;refine Af (Bh rfl Aau rfl ap (hH.trans q.arg)) rfl<|Ar 1 rfl<|AL<|AA ?_
   refine Ao<|Aq<|Ar 1 rfl ?_;obtain⟨aq,h⟩:=Ac h;refine Af (AK rfl rfl rfl aq) rfl<|Ar 1 rfl<|AL ?_;have h:=BF.again h ab;refine AO ((d.set b.toNat (Go.L.u8 (a0.1.getD a.toNat default))),a0.2.1.getD a.toNat default,(b - (1:Int)),an,aa) (.cons rfl (.cons rfl (.cons rfl (.cons rfl (Sub.nil _))))) ⟨q,ao,h⟩ (Nat.lt_succ_self _)
  have h:=A2 o h;refine Bq<|AH<|A6 ?_;have h:=BF.out h ab;refine Bf<|A9 (d,c) (.cons rfl (Sub.nil _)) ⟨l,s,h⟩
 rintro⟨m,e⟩ a6 ⟨ae,ag,h⟩;refine AD 2 rfl<|Az ?_;obtain rfl:=Option.some.inj h;refine An rfl rfl ?_;exact⟨ae.ext,_,rfl,(ae.Gp hH (i:=0) rfl ag)⟩
def Fa(a:Int)(c:List Int)(b:Int):Option (((List Int)×Int×Int) ⊕ ((((List Int))×(List Int)×(List Int))×Bool)):=
 AY (BJ (a+(1:Int))) (some (Sum.inl (c,b,(a+(1:Int)))))
def E5(a0:List Int)(c:Int):(List Int)×Int×Int→Option (((List Int)×Int×Int) ⊕ (((List Int)×Int×Int) ⊕ ((((List Int))×(List Int)×(List Int))×Bool))):=fun⟨d,b,a⟩=>
 if a<(a0.length:Int) then AY (0≤a∧a<(a0.length:Int)) (if a0.getD a.toNat default=c then AY (0≤a∧a<(d.length:Int)) (AY (BJ (b+(1:Int))) (AY (BJ (a+(1:Int))) (some (Sum.inl ((d.set a.toNat b),(b+(1:Int)),(a+(1:Int))))))) else AY (BJ (a+(1:Int))) (some (Sum.inl (d,b,(a+(1:Int)))))) else Option.map Sum.inr ((Fa c) d b)
def Ha(a0:List Int)(a:Int)(s:(List Int)×Int×Int):Option (((List Int)×Int×Int) ⊕ ((((List Int))×(List Int)×(List Int))×Bool)):=Go.L.run (E5 a0 a) s
def Fb(c:List Int)(d:List Int)(a:Int)(e:List Int)(b:Bool):Option ((((List Int))×(List Int)×(List Int))×Bool):=
 some ((e,c,(d.set a.toNat (0:Int))),b)
def Fc(a0:List Int)(d:List Int)(c:List Int)(b:List Int)(a:Int):Option ((((List Int))×(List Int)×(List Int))×Bool):=
 AY (0≤a∧a<(b.length:Int)) (AY (0≤a∧a<(a0.length:Int)) ((Fb c b a) d (decide (a0.getD a.toNat default=(-1:Int)))))
def E6(a0:List Int)(e:List Int)(c:List Int):(List Int)×Int×Int→Option (((List Int)×Int×Int) ⊕ ((((List Int))×(List Int)×(List Int))×Bool)):=fun⟨d,a,b⟩=>
 if(0:Int)<b then AY (0≤a∧a<(d.length:Int)) (AY (0≤a∧a<(a0.length:Int)) (if a0.getD a.toNat default=(-1:Int) then none else AY (0≤a∧a<(c.length:Int)) (AY (BJ (b - (1:Int))) (some (Sum.inl ((d.set a.toNat b),c.getD a.toNat default,(b - (1:Int)))))))) else Option.map Sum.inr ((Fc a0 e c) d a)
def Hb(a0:List Int)(b:List Int)(a:List Int)(s:(List Int)×Int×Int):Option ((((List Int))×(List Int)×(List Int))×Bool):=Go.L.run (E6 a0 b a) s
def Fe(a0:List Int)(b:List Int)(c:List Int)(a:List Int):Option ((((List Int))×(List Int)×(List Int))×Bool):=
 (Hb a0 b a) (c,(0:Int),((a0.length:Int) - (1:Int)))
def E7(a0:List Int)(d:List Int)(e:List Int):(List Int)×Int×Int→Option (((List Int)×Int×Int) ⊕ ((((List Int))×(List Int)×(List Int))×Bool)):=fun⟨b,c,a⟩=>
 if a<(256:Int) then(Ha a0 a) (b,c,(0:Int)) else Option.map Sum.inr ((Fe a0 d e) b)
def Hc(a0:List Int)(a:List Int)(b:List Int)(s:(List Int)×Int×Int):Option ((((List Int))×(List Int)×(List Int))×Bool):=Go.L.run (E7 a0 a b) s
def Ff(a0:List Int)(a:List Int)(b:List Int)(c:List Int):Option ((((List Int))×(List Int)×(List Int))×Bool):=
 (Hc a0 a c) (b,(1:Int),(0:Int))
def Gv(a0:List Int):Option ((((List Int))×(List Int)×(List Int))×Bool):=
 AY (BJ ((a0.length:Int) - (1:Int))) (AY (BJ (((a0.length:Int) - (1:Int))+(1:Int))) (AY (BJ (((a0.length:Int) - (1:Int))+(1:Int))) (AY (0≤(((a0.length:Int) - (1:Int))+(1:Int))∧((8:Nat):Int) * (((a0.length:Int) - (1:Int))+(1:Int))≤281474976710656∧(((a0.length:Int) - (1:Int))+(1:Int))≤9223372036854775807) (AY (0≤(((a0.length:Int) - (1:Int))+(1:Int))∧((8:Nat):Int) * (((a0.length:Int) - (1:Int))+(1:Int))≤281474976710656∧(((a0.length:Int) - (1:Int))+(1:Int))≤9223372036854775807) ((Ff a0) a0 (List.replicate (((a0.length:Int) - (1:Int))+(1:Int)).toNat (0:Int)) (List.replicate (((a0.length:Int) - (1:Int))+(1:Int)).toNat (0:Int)))))))
theorem Mw(w:World)(H:PH)(hH:Le H (hp w)){a0:List Int}{c:Value}(m:AI (.int .i64) H c (a0)){r:(((List Int))×(List Int)×(List Int))×Bool}(h:Gv a0=some r):
  Ok Tryz.prog 76 [c] w (fun v w'=>Ext w w'∧∃ u0 u1 u2,v=.tuple #[.agg #[u0,u1,u2],.bool r.2]∧AI (.int .i64) (un H (nw w w')) u0 (r.1.1)∧Co 3 (.int .i64) H w w' u1 (r.1.2.1)∧Co 3 (.int .i64) H w w' u2 (r.1.2.2)):=by
 refine A5 (n:=77) [(0,c)] func76 rfl rfl rfl rfl rfl ?_;have hL:=AR.start w;refine Al<|AJ FQ rfl rfl hL fun w1 b1 f9 gu _=>AB 1 rfl<|Bl 1 rfl<|Af (Bn rfl Aat m) rfl ?_;obtain⟨ga,h⟩:=Ac h;refine Af (AK rfl rfl rfl ga) rfl<|AB 1 rfl<|Bm (σ:=(List Int)×(List Int)×(List Int)×Nat×Value×Value×(List Value)×Value×(List Value)) (fun⟨ab,bf,ac,bjb43,d,e,ay,f,p⟩=>[(0,c),(2,(Aam b1)),(4,No ((a0.length:Int) - (1:Int))),(5,(Aam bjb43))]) (fun⟨ab,bf,ac,bjb43,d,e,ay,f,p⟩ wr=>DM w [.box bjb43 [d,e,f] 98,.row (f) 3 1 (ac).length (p),.row (e) 3 1 (bf).length (ay),.box b1 [Aak,Aak,Aak] 98] wr fun Oz=>AI (.int .i64) (gz H w wr Oz) (d) (ab)∧AM (.int .i64) (gz H w wr Oz) (ac) (p)∧AM (.int .i64) (gz H w wr Oz) (bf) (ay)∧(Ff a0) ab bf ac=some r) ?_ ?_
 ·refine MY (.q 0 (.q 1 (.q 2 (.q 3 (.q 5 (.q 6 (.h3 4 (.h2 7 (.q 8 (.h 9 (.tail 10))) 9 (.h 7 (.q 8 (.tail 10)))) 7 (.h2 4 (.q 8 (.h 9 (.tail 10))) 9 (.h 4 (.q 8 (.tail 10)))) 9 (.h2 4 (.h 7 (.q 8 (.tail 10))) 7 (.h 4 (.q 8 (.tail 10))))))))))) mixed (by kernel_rfl) (fun he fw=>?_);have b9:=f9.call fw;refine Ds 1 rfl<|BE (AW rfl (fun _=>YJ _ m.one _)) rfl rfl<|Ds 1 rfl ?_;obtain⟨fx,h⟩:=Ac h;refine BE (AK rfl rfl rfl fx) rfl rfl<|Ds 1 rfl ?_;obtain⟨fy,h⟩:=Ac h;refine BE (AK rfl rfl rfl fy) rfl rfl<|AaW ?_ ?_ ?_
  ·obtain⟨ax,h⟩:=Ac h;refine JT (r:=(.int .i64)) (z:=(0:Int)) rfl rfl rfl rfl Aat BG rfl (fun _=>rfl) rfl hH b9 ax fun cu hf ca dr gi a6=>T5 ?_ ?_
   ·obtain⟨ao,h⟩:=Ac h;refine JT (r:=(.int .i64)) (z:=(0:Int)) rfl rfl rfl rfl Aat BG rfl (fun _=>rfl) rfl hH dr ao fun gb hg fz cb e0 cc=>BE (AW rfl (fun _=>Ji _ _ (row_one (cb.at (i:=1) rfl)) _ (row_one (cb.at (i:=0) rfl)) _)) rfl rfl<|Ml rfl FQ rfl rfl cb fun hh gc ds cv=>BW (fun hi dt=>?_);have cd:=ds.call dt;have cw:=AX ds dt;refine Ak 0 rfl rfl rfl FQ cd rfl rfl (AF m.one (AF (row_one (cd.at (i:=2) rfl)) (AF (row_one (cd.at (i:=1) rfl)) BM))) fun hj f0 cx=>AL ?_;have a6:=a6.mono (Ab hH (e0.trans (cv.trans (cw.trans cx))));have cc:=cc.mono (Ab hH (cv.trans (cw.trans cx)));refine A9 (a0,(List.replicate (((a0.length:Int) - (1:Int))+(1:Int)).toNat (0:Int)),(List.replicate (((a0.length:Int) - (1:Int))+(1:Int)).toNat (0:Int)),gc,c,cu,ca,gb,fz) (.cons rfl (.cons rfl (.cons rfl (.cons rfl (Sub.nil _))))) ⟨f0,(m.mono (Ai hH)),cc,a6,h⟩
   obtain⟨ao,h⟩:=Ac h;refine Ml rfl FQ rfl rfl dr fun hk ft f1 e1=>JT (r:=(.int .i64)) (z:=(0:Int)) rfl rfl rfl rfl Aat BG rfl (fun _=>rfl) rfl hH f1 ao fun du hl dv bj e2 ce=>BE (AW rfl (fun _=>Ji _ _ (row_one (bj.at (i:=2) rfl)) _ (row_one (bj.at (i:=0) rfl)) _)) rfl rfl<|BW (fun hm dw=>?_);have cf:=bj.call dw;have cy:=AX bj dw;refine Ak 1 rfl rfl rfl FQ cf rfl rfl (AF m.one (AF (row_one (cf.at (i:=2) rfl)) (AF (row_one (cf.at (i:=0) rfl)) BM))) fun gd dx cz=>AL ?_;have dy:AR w [.box ft [c,cu,du] 98,.row (du) 3 1 ((List.replicate (((a0.length:Int) - (1:Int))+(1:Int)).toNat (0:Int))).length (dv),.row (cu) 3 1 ((List.replicate (((a0.length:Int) - (1:Int))+(1:Int)).toNat (0:Int))).length (ca),.box b1 [Aak,Aak,Aak] 98] gd:=dx.Cq [1] rfl;have c0:=B5 [1] dx dy rfl;have a6:=a6.mono (Ab hH (e1.trans (e2.trans (cy.trans (cz.trans c0)))));have ce:=ce.mono (Ab hH (cy.trans (cz.trans c0)))
   refine A9 (a0,(List.replicate (((a0.length:Int) - (1:Int))+(1:Int)).toNat (0:Int)),(List.replicate (((a0.length:Int) - (1:Int))+(1:Int)).toNat (0:Int)),ft,c,cu,ca,du,dv) (.cons rfl (.cons rfl (.cons rfl (.cons rfl (Sub.nil _))))) ⟨dy,(m.mono (Ai hH)),ce,a6,h⟩
  ·obtain⟨ax,h⟩:=Ac h;obtain⟨ao,h⟩:=Ac h;refine JT (r:=(.int .i64)) (z:=(0:Int)) rfl rfl rfl rfl Aat BG rfl (fun _=>rfl) rfl hH b9 ao fun bg hn bk dz gj a7=>T5 ?_ ?_
   ·refine JT (r:=(.int .i64)) (z:=(0:Int)) rfl rfl rfl rfl Aat BG rfl (fun _=>rfl) rfl hH dz ax fun d0 ho d1 cg e3 ch=>BE (AW rfl (fun _=>Ji _ _ (row_one (cg.at (i:=0) rfl)) _ (row_one (cg.at (i:=1) rfl)) _)) rfl rfl<|Ml rfl FQ rfl rfl cg fun hq fu d2 c1=>BW (fun hr d3=>?_);have ci:=d2.call d3;have c2:=AX d2 d3;refine Ak 0 rfl rfl rfl FQ ci rfl rfl (AF m.one (AF (row_one (ci.at (i:=1) rfl)) (AF (row_one (ci.at (i:=2) rfl)) BM))) fun ge d4 c3=>AL ?_;have d5:AR w [.box fu [c,d0,bg] 98,.row (bg) 3 1 ((List.replicate (((a0.length:Int) - (1:Int))+(1:Int)).toNat (0:Int))).length (bk),.row (d0) 3 1 ((List.replicate (((a0.length:Int) - (1:Int))+(1:Int)).toNat (0:Int))).length (d1),.box b1 [Aak,Aak,Aak] 98] ge:=d4.Cq [2,1] rfl;have c4:=B5 [2,1] d4 d5 rfl;have a7:=a7.mono (Ab hH (e3.trans (c1.trans (c2.trans (c3.trans c4)))));have ch:=ch.mono (Ab hH (c1.trans (c2.trans (c3.trans c4))))
    refine A9 (a0,(List.replicate (((a0.length:Int) - (1:Int))+(1:Int)).toNat (0:Int)),(List.replicate (((a0.length:Int) - (1:Int))+(1:Int)).toNat (0:Int)),fu,c,d0,d1,bg,bk) (.cons rfl (.cons rfl (.cons rfl (.cons rfl (Sub.nil _))))) ⟨d5,(m.mono (Ai hH)),a7,ch,h⟩
   refine Ml rfl FQ rfl rfl dz fun hs fv f2 e4=>JT (r:=(.int .i64)) (z:=(0:Int)) rfl rfl rfl rfl Aat BG rfl (fun _=>rfl) rfl hH f2 ax fun d6 ht d7 bl e5 cj=>BE (AW rfl (fun _=>Ji _ _ (row_one (bl.at (i:=0) rfl)) _ (row_one (bl.at (i:=2) rfl)) _)) rfl rfl<|BW (fun hu d8=>?_);have ck:=bl.call d8;have c5:=AX bl d8;refine Ak 1 rfl rfl rfl FQ ck rfl rfl (AF m.one (AF (row_one (ck.at (i:=0) rfl)) (AF (row_one (ck.at (i:=2) rfl)) BM))) fun gf d9 c6=>AL ?_;have ea:AR w [.box fv [c,d6,bg] 98,.row (bg) 3 1 ((List.replicate (((a0.length:Int) - (1:Int))+(1:Int)).toNat (0:Int))).length (bk),.row (d6) 3 1 ((List.replicate (((a0.length:Int) - (1:Int))+(1:Int)).toNat (0:Int))).length (d7),.box b1 [Aak,Aak,Aak] 98] gf:=d9.Cq [2,2] rfl;have c7:=B5 [2,2] d9 ea rfl;have a7:=a7.mono (Ab hH (e4.trans (e5.trans (c5.trans (c6.trans c7)))));have cj:=cj.mono (Ab hH (c5.trans (c6.trans c7)))
   refine A9 (a0,(List.replicate (((a0.length:Int) - (1:Int))+(1:Int)).toNat (0:Int)),(List.replicate (((a0.length:Int) - (1:Int))+(1:Int)).toNat (0:Int)),fv,c,d6,d7,bg,bk) (.cons rfl (.cons rfl (.cons rfl (.cons rfl (Sub.nil _))))) ⟨ea,(m.mono (Ai hH)),a7,cj,h⟩
  obtain⟨ax,h⟩:=Ac h;obtain⟨ao,h⟩:=Ac h;refine Ml rfl FQ rfl rfl b9 fun hv c8 eb gk=>T5 ?_ ?_
  ·refine JT (r:=(.int .i64)) (z:=(0:Int)) rfl rfl rfl rfl Aat BG rfl (fun _=>rfl) rfl hH eb ax fun ec hw ed f3 gl cl=>JT (r:=(.int .i64)) (z:=(0:Int)) rfl rfl rfl rfl Aat BG rfl (fun _=>rfl) rfl hH f3 ao fun ee hx ef bm e6 cm=>BE (AW rfl (fun _=>Ji _ _ (row_one (bm.at (i:=1) rfl)) _ (row_one (bm.at (i:=0) rfl)) _)) rfl rfl<|BW (fun hy eg=>?_);have cn:=bm.call eg;have c9:=AX bm eg;refine Ak 2 rfl rfl rfl FQ cn rfl rfl (AF m.one (AF (row_one (cn.at (i:=1) rfl)) (AF (row_one (cn.at (i:=0) rfl)) BM))) fun gg eh da=>AL ?_;have ei:AR w [.box c8 [c,ec,ee] 98,.row (ee) 3 1 ((List.replicate (((a0.length:Int) - (1:Int))+(1:Int)).toNat (0:Int))).length (ef),.row (ec) 3 1 ((List.replicate (((a0.length:Int) - (1:Int))+(1:Int)).toNat (0:Int))).length (ed),.box b1 [Aak,Aak,Aak] 98] gg:=eh.Cq [2] rfl;have db:=B5 [2] eh ei rfl;have cl:=cl.mono (Ab hH (e6.trans (c9.trans (da.trans db))));have cm:=cm.mono (Ab hH (c9.trans (da.trans db)))
   refine A9 (a0,(List.replicate (((a0.length:Int) - (1:Int))+(1:Int)).toNat (0:Int)),(List.replicate (((a0.length:Int) - (1:Int))+(1:Int)).toNat (0:Int)),c8,c,ec,ed,ee,ef) (.cons rfl (.cons rfl (.cons rfl (.cons rfl (Sub.nil _))))) ⟨ei,(m.mono (Ai hH)),cm,cl,h⟩
  refine JT (r:=(.int .i64)) (z:=(0:Int)) rfl rfl rfl rfl Aat BG rfl (fun _=>rfl) rfl hH eb ao fun ej hz ek f4 gm co=>JT (r:=(.int .i64)) (z:=(0:Int)) rfl rfl rfl rfl Aat BG rfl (fun _=>rfl) rfl hH f4 ax fun el h0 em bn e7 cp=>BE (AW rfl (fun _=>Ji _ _ (row_one (bn.at (i:=0) rfl)) _ (row_one (bn.at (i:=1) rfl)) _)) rfl rfl<|BW (fun h1 en=>?_);have cq:=bn.call en;have dc:=AX bn en;refine Ak 2 rfl rfl rfl FQ cq rfl rfl (AF m.one (AF (row_one (cq.at (i:=0) rfl)) (AF (row_one (cq.at (i:=1) rfl)) BM))) fun gh eo dd=>AL ?_;have ep:AR w [.box c8 [c,el,ej] 98,.row (ej) 3 1 ((List.replicate (((a0.length:Int) - (1:Int))+(1:Int)).toNat (0:Int))).length (ek),.row (el) 3 1 ((List.replicate (((a0.length:Int) - (1:Int))+(1:Int)).toNat (0:Int))).length (em),.box b1 [Aak,Aak,Aak] 98] gh:=eo.Cq [1,2] rfl;have de:=B5 [1,2] eo ep rfl;have co:=co.mono (Ab hH (e7.trans (dc.trans (dd.trans de))));have cp:=cp.mono (Ab hH (dc.trans (dd.trans de)))
  refine A9 (a0,(List.replicate (((a0.length:Int) - (1:Int))+(1:Int)).toNat (0:Int)),(List.replicate (((a0.length:Int) - (1:Int))+(1:Int)).toNat (0:Int)),c8,c,el,em,ej,ek) (.cons rfl (.cons rfl (.cons rfl (.cons rfl (Sub.nil _))))) ⟨ep,(m.mono (Ai hH)),co,cp,h⟩
 rintro⟨ab,bf,ac,bjb43,d,e,ay,f,p⟩ gv ⟨eq,e8,e9,fa,h⟩;have cr:=eq.rG H;refine AD 1 rfl<|Bm (σ:=(List Int)×(List Value)) (fun⟨t,o⟩=>[(0,c),(2,(Aam b1)),(4,No ((a0.length:Int) - (1:Int))),(5,(Aam bjb43))]) (fun⟨t,o⟩ wr=>DM w [.box bjb43 [d,e,f] 98,.row (f) 3 1 (ac).length (p),.row (e) 3 1 (t).length (o),.box b1 [Aak,Aak,Aak] 98] wr fun Oz=>AI (.int .i64) (gz H w wr Oz) (d) (ab)∧AM (.int .i64) (gz H w wr Oz) (ac) (p)∧AM (.int .i64) (gz H w wr Oz) (t) (o)∧(Fe a0 ab ac) t=some r) ?_ ?_
 ·refine AD 1 rfl<|A4 ?_;obtain⟨cs,h⟩:=Bb h;refine Bu (σ:=(List Int)×Int×Int×(List Value)×Nat) (fun⟨ap,aj,k,ag,n⟩=>[(0,c),(2,(Aam b1)),(4,No ((a0.length:Int) - (1:Int))),(5,(Aam bjb43)),(6,No aj),(24,No k)]) (fun⟨ap,aj,k,ag,n⟩ wr=>DM w [.box bjb43 [d,e,f] 98,.row (f) 3 1 (ac).length (p),.row (e) 3 1 (ap).length (ag),.box b1 [Aak,Aak,Aak] 98] wr fun Oz=>AI (.int .i64) (gz H w wr Oz) (d) (ab)∧AM (.int .i64) (gz H w wr Oz) (ac) (p)∧AM (.int .i64) (gz H w wr Oz) (ap) (ag)∧FM (E7 a0 ab ac) n (ap,aj,k)=some r) (fun⟨ap,aj,k,ag,n⟩=>n) (bf,(1:Int),(0:Int),ay,cs) (.cons rfl (.cons rfl (.cons rfl (.cons rfl (.cons rfl (.cons rfl (Sub.nil _))))))) ⟨eq,(e8.mono cr),(e9.mono cr),(fa.mono cr),h⟩ ?_;rintro⟨ap,aj,k,ag,nn237⟩ gn ⟨bo,bh,he237_j47,b6,h⟩;obtain⟨cs,er,rfl,h,df⟩:=Ba h;have av:=bo.rG H;refine AD 1 rfl<|A8<|Bg rfl (fun bp=>?_) (fun bp=>?_)
  ·have h:=A1 bp h;refine Av<|Ao<|Bm (σ:=(List Int)×Int×(List Value)) (fun⟨a8,aq,ar⟩=>[(0,c),(2,(Aam b1)),(4,No ((a0.length:Int) - (1:Int))),(5,(Aam bjb43)),(6,No aq),(24,No k)]) (fun⟨a8,aq,ar⟩ wr=>DM w [.box bjb43 [d,e,f] 98,.row (f) 3 1 (ac).length (p),.row (e) 3 1 (a8).length (ar),.box b1 [Aak,Aak,Aak] 98] wr fun Oz=>AI (.int .i64) (gz H w wr Oz) (d) (ab)∧AM (.int .i64) (gz H w wr Oz) (ac) (p)∧AM (.int .i64) (gz H w wr Oz) (a8) (ar)∧(Fa k) a8 aq=some er) ?_ ?_
   ·refine A4<|AD 2 rfl<|Bl 1 rfl<|Af (Bn rfl Aat m) rfl<|AB 1 rfl<|A4 ?_;obtain⟨bq,h⟩:=Bb h;refine Bu (σ:=(List Int)×Int×Int×(List Value)×Nat) (fun⟨al,u,l,ah,n⟩=>[(0,c),(2,(Aam b1)),(4,No ((a0.length:Int) - (1:Int))),(5,(Aam bjb43)),(6,No u),(7,No k),(24,No k),(27,c),(28,No (a0.length:Int)),(29,No l)]) (fun⟨al,u,l,ah,n⟩ wr=>DM w [.box bjb43 [d,e,f] 98,.row (f) 3 1 (ac).length (p),.row (e) 3 1 (al).length (ah),.box b1 [Aak,Aak,Aak] 98] wr fun Oz=>AI (.int .i64) (gz H w wr Oz) (d) (ab)∧AM (.int .i64) (gz H w wr Oz) (ac) (p)∧AM (.int .i64) (gz H w wr Oz) (al) (ah)∧FM (E5 a0 k) n (al,u,l)=some er) (fun⟨al,u,l,ah,n⟩=>n) (ap,aj,(0:Int),ag,bq) (.cons rfl (.cons rfl (.cons rfl (.cons rfl (.cons rfl (.cons rfl (.cons rfl (.cons rfl (.cons rfl (.cons rfl (Sub.nil _))))))))))) ⟨bo,(bh.mono av),(he237_j47.mono av),(b6.mono av),h⟩ ?_;rintro⟨al,u,l,ah,nn299⟩ go ⟨am,a9,he299_j47,be,h⟩;obtain⟨bq,gw,rfl,h,br⟩:=Ba h
    have y:=am.rG H;refine AD 1 rfl<|A8<|Bg rfl (fun bs=>?_) (fun bs=>?_)
    ·have h:=A1 bs h;refine Av<|Ao<|A8<|A4<|Bl 1 rfl ?_;obtain⟨dg,h⟩:=Ac h;refine Be rfl rfl Aat BG m l.toNat (Int.toNat_of_nonneg dg.1).symm (AZ dg) rfl ?_;rintro gx _ rfl fb;refine Af (Bh rfl Aau rfl fb (hH.trans am.arg)) rfl<|AB 2 rfl<|AD 3 rfl<|Bg rfl (fun bt=>?_) (fun bt=>?_)
     ·have h:=A1 bt h;refine Al<|Af (Ag rfl Abz rfl RD (by decide)) rfl<|Af (Ah 0 rfl Aat rfl am rfl rfl) rfl<|Ar 2 rfl ?_;obtain⟨bu,h⟩:=Ac h;refine KH 2 rfl rfl Aat BG am rfl l.toNat (Int.toNat_of_nonneg bu.1).symm (AZ bu) rfl fun gy fc=>KI (z:=u) (j:=l.toNat) 2 rfl rfl rfl BG hH am rfl (be.mono y) fc rfl (AZ bu) rfl fun g0 fd fe es ff=>Ad<|Aq<|Ar 1 rfl ?_;obtain⟨fg,h⟩:=Ac h;refine Af (AK rfl rfl rfl fg) rfl<|Ar 1 rfl<|AL<|AA<|Ao<|Aq ?_;obtain⟨fh,h⟩:=Ac h;refine Af (AK rfl rfl rfl fh) rfl<|Ar 1 rfl<|AL ?_;have h:=BF.again h br;have y:=y.trans (Ab hH es);refine AO ((al.set l.toNat u),(u+(1:Int)),(l+(1:Int)),fd,bq) (.cons rfl (.cons rfl (.cons rfl (.cons rfl (.cons rfl (.cons rfl (.cons rfl (.cons rfl (.cons rfl (.cons rfl (Sub.nil _))))))))))) ⟨fe,(a9.mono y),(he299_j47.mono y),ff,h⟩ (Nat.lt_succ_self _)
     have h:=A2 bt h;refine Av<|AA<|Ao<|Aq ?_;obtain⟨fi,h⟩:=Ac h;refine Af (AK rfl rfl rfl fi) rfl<|Ar 1 rfl<|AL ?_;have h:=BF.again h br;refine AO (al,u,(l+(1:Int)),ah,bq) (.cons rfl (.cons rfl (.cons rfl (.cons rfl (.cons rfl (.cons rfl (.cons rfl (.cons rfl (.cons rfl (.cons rfl (Sub.nil _))))))))))) ⟨am,(a9.mono y),(he299_j47.mono y),(be.mono y),h⟩ (Nat.lt_succ_self _)
    have h:=A2 bs h;refine Bq<|AH<|A6 ?_;have h:=BF.out h br;refine Bf<|AA<|A9 (al,u,ah) (.cons rfl (.cons rfl (.cons rfl (.cons rfl (.cons rfl (.cons rfl (Sub.nil _))))))) ⟨am,(a9.mono y),(he299_j47.mono y),(be.mono y),h⟩
   rintro⟨a8,aq,ar⟩ gp ⟨dh,dp,he279_j47,et,h⟩;have bv:=dh.rG H;refine Aq ?_;obtain⟨fj,h⟩:=Ac h;refine Af (AK rfl rfl rfl fj) rfl<|Ar 1 rfl<|AL ?_;have h:=BF.again h df;refine AO (a8,aq,(k+(1:Int)),ar,cs) (.cons rfl (.cons rfl (.cons rfl (.cons rfl (.cons rfl (.cons rfl (Sub.nil _))))))) ⟨dh,(dp.mono bv),(he279_j47.mono bv),(et.mono bv),h⟩ (Nat.lt_succ_self _)
  have h:=A2 bp h;refine Bq<|AH<|A6 ?_;have h:=BF.out h df;refine Bf<|A9 (ap,ag) (.cons rfl (.cons rfl (.cons rfl (.cons rfl (Sub.nil _))))) ⟨bo,(bh.mono av),(he237_j47.mono av),(b6.mono av),h⟩
 rintro⟨t,o⟩ gq ⟨di,dq,he189_j47,eu,h⟩;have bw:=di.rG H;refine AD 1 rfl<|Bm (σ:=(List Int)×Int×(List Value)) (fun⟨an,a,az⟩=>[(0,c),(2,(Aam b1)),(5,(Aam bjb43)),(10,No a)]) (fun⟨an,a,az⟩ wr=>DM w [.box bjb43 [d,e,f] 98,.row (f) 3 1 (an).length (az),.row (e) 3 1 (t).length (o),.box b1 [Aak,Aak,Aak] 98] wr fun Oz=>AI (.int .i64) (gz H w wr Oz) (d) (ab)∧AM (.int .i64) (gz H w wr Oz) (an) (az)∧AM (.int .i64) (gz H w wr Oz) (t) (o)∧(Fc a0 ab t) an a=some r) ?_ ?_
 ·refine AD 2 rfl<|A4 ?_;obtain⟨ct,h⟩:=Bb h;refine Bu (σ:=(List Int)×Int×Int×(List Value)×Nat) (fun⟨au,g,x,ak,n⟩=>[(0,c),(2,(Aam b1)),(5,(Aam bjb43)),(10,No g),(11,No x)]) (fun⟨au,g,x,ak,n⟩ wr=>DM w [.box bjb43 [d,e,f] 98,.row (f) 3 1 (au).length (ak),.row (e) 3 1 (t).length (o),.box b1 [Aak,Aak,Aak] 98] wr fun Oz=>AI (.int .i64) (gz H w wr Oz) (d) (ab)∧AM (.int .i64) (gz H w wr Oz) (au) (ak)∧AM (.int .i64) (gz H w wr Oz) (t) (o)∧FM (E6 a0 ab t) n (au,g,x)=some r) (fun⟨au,g,x,ak,n⟩=>n) (ac,(0:Int),((a0.length:Int) - (1:Int)),p,ct) (.cons rfl (.cons rfl (.cons rfl (.cons rfl (.cons rfl (Sub.nil _)))))) ⟨di,(dq.mono bw),(he189_j47.mono bw),(eu.mono bw),h⟩ ?_;rintro⟨au,g,x,ak,nn379⟩ gr ⟨a1,bi,b7,he379_j45,h⟩;obtain⟨ct,g1,rfl,h,dj⟩:=Ba h;refine A8 ?_;have ad:=a1.rG H;refine AD 2 rfl<|Bg rfl (fun bx=>?_) (fun bx=>?_)
  ·have h:=A1 bx h;refine Av<|Ao<|A8<|A4<|Al<|Af (Ag rfl Abz rfl RD (by decide)) rfl<|Af (Ah 0 rfl Aat rfl a1 rfl rfl) rfl<|Ar 2 rfl ?_;obtain⟨bz,h⟩:=Ac h;refine KH 1 rfl rfl Aat BG a1 rfl g.toNat (Int.toNat_of_nonneg bz.1).symm (AZ bz) rfl fun g2 fk=>KI (z:=x) (j:=g.toNat) 1 rfl rfl rfl BG hH a1 rfl (b7.mono ad) fk rfl (AZ bz) rfl fun g3 fl ba ev fm=>Ad<|A8<|Bl 2 rfl ?_;obtain⟨dk,h⟩:=Ac h;refine Be rfl rfl Aat BG m g.toNat (Int.toNat_of_nonneg dk.1).symm (AZ dk) rfl ?_;rintro g4 _ rfl fn;refine Af (Bh rfl Aau rfl fn (hH.trans ba.arg)) rfl<|AB 1 rfl<|Bg rfl (fun b0=>?_) (fun b0=>?_)
   ·have h:=A1 b0 h
    cases h
   have h:=A2 b0 h;refine Av<|Ao<|Aq<|Af (Ag rfl Abz rfl RD (by decide)) rfl<|Af (Ah 0 rfl Aat rfl ba rfl rfl) rfl<|Ar 1 rfl ?_;obtain⟨dl,h⟩:=Ac h;have ad:=ad.trans (Ab hH ev);refine Be rfl rfl Aat BG (ba.S8 hH (i:=2) rfl (he379_j45.mono ad)) g.toNat (Int.toNat_of_nonneg dl.1).symm (AZ dl) rfl ?_;rintro g5 _ rfl fo;refine Af (Bh rfl Aau rfl fo (Le.refl _)) rfl<|Ar 1 rfl<|AL<|AA<|Ao<|Aq<|Ar 1 rfl ?_;obtain⟨fp,h⟩:=Ac h;refine Af (AK rfl rfl rfl fp) rfl<|Ar 1 rfl<|AL ?_;have h:=BF.again h dj;refine AO ((au.set g.toNat x),t.getD g.toNat default,(x - (1:Int)),fl,ct) (.cons rfl (.cons rfl (.cons rfl (.cons rfl (.cons rfl (Sub.nil _)))))) ⟨ba,(bi.mono ad),fm,(he379_j45.mono ad),h⟩ (Nat.lt_succ_self _)
  have h:=A2 bx h;refine Bq<|AH<|A6 ?_;have h:=BF.out h dj;refine Bf<|A9 (au,g,ak) (.cons rfl (.cons rfl (.cons rfl (.cons rfl (Sub.nil _))))) ⟨a1,(bi.mono ad),(b7.mono ad),(he379_j45.mono ad),h⟩
 rintro⟨an,a,az⟩ gs ⟨bb,af,ew,he359_j45,h⟩;have s:=bb.rG H;refine Al<|Af (Ag rfl Abz rfl RD (by decide)) rfl<|Af (Ah 0 rfl Aat rfl bb rfl rfl) rfl<|Ar 1 rfl ?_;obtain⟨b2,h⟩:=Ac h;refine KH 1 rfl rfl Aat BG bb rfl a.toNat (Int.toNat_of_nonneg b2.1).symm (AZ b2) rfl fun g6 fq=>KI (z:=(0:Int)) (j:=a.toNat) 1 rfl rfl rfl BG hH bb rfl (ew.mono s) fq rfl (AZ b2) rfl fun g7 b3 dm b8 aw=>Ad<|Bm (σ:=(List Int)×Bool×Value) (fun⟨b4,a2,bc⟩=>[(2,(Aam b1)),(3,.bool a2)]) (fun⟨b4,a2,bc⟩ wr=>DM w [.box bjb43 [d,e,f] 98,.row (f) 3 1 ((an.set a.toNat (0:Int))).length (b3),.row (e) 3 1 (t).length (o),.box b1 [bc,e,f] 98] wr fun Oz=>AI (.int .i64) (gz H w wr Oz) (d) (ab)∧AM (.int .i64) (gz H w wr Oz) ((an.set a.toNat (0:Int))) (b3)∧AM (.int .i64) (gz H w wr Oz) (t) (o)∧AI (.int .i64) (gz H w wr Oz) (bc) (b4)∧(Fb t an a) b4 a2=some r) ?_ ?_
 ·refine Jj (L8 Lo) (fun z0 z=>Le (gz H w z0 [.box bjb43 [d,e,f] 98,.row (f) 3 1 ((an.set a.toNat (0:Int))).length (b3),.row (e) 3 1 (t).length (o),.box b1 [Aak,Aak,Aak] 98]) (hp z)∧z.heap[bjb43]? = some (.cells [d,e,f].toArray 98 (0,0))) mixed rfl (fun ae g9 dn=>?_);have aa:=dm.call dn;have a3:=AX dm dn;have b:=aa.rG H;refine Lq ⟨b.trans (As hH aa),aa.at (i:=0) rfl⟩ fun kI422=>?_;refine AG 0 ae kI422 (by kernel_rfl) rfl (fun _ hI=>KK rfl Abz rfl FQ hI.2) rfl<|AG 1 ae kI422 (by kernel_rfl) rfl (fun _ _=>Ae rfl) rfl<|AG 2 ae kI422 (by kernel_rfl) rfl (fun _ _=>Ae rfl) rfl<|Xd (i:=3) (j:=6) (by kernel_rfl) rfl rfl ?_ ?_
  ·obtain⟨a4,h⟩:=Ac h;refine Be rfl rfl Aat BG m a.toNat (Int.toNat_of_nonneg a4.1).symm (AZ a4) rfl ?_;rintro ha _ rfl fr;refine Bd ⟨b.trans (As hH aa),aa.at (i:=0) rfl⟩ fun kI425=>?_;refine AG 4 ae kI425 (by kernel_rfl) rfl (fun _ hI=>Bh rfl Aau rfl (fr.mono (Ai hH)) hI.1) rfl<|AG 5 ae kI425 (by kernel_rfl) rfl (fun _ _=>Ae rfl) rfl<|Ea (i:=6) (by kernel_rfl) rfl ?_;have s:=s.trans (Ab hH (b8.trans a3));refine Ak 3 rfl rfl rfl FQ aa rfl rfl (AF ((af.mono s).mono b).one (AF (row_one (aa.at (i:=2) rfl)) (AF (row_one (aa.at (i:=1) rfl)) BM))) ?_;intro hb b5 ex;have b:=b.trans (Ab hH ex);refine Bd ⟨b.trans (As hH b5),b5.at (i:=0) rfl⟩ fun kI427=>?_;refine AG 7 ae kI427 (by kernel_rfl) rfl (fun _ _=>Ae rfl) rfl<|Dz (by kernel_rfl) ?_;have aw:=aw.mono (Ab hH a3);refine A9 (ab,decide (a0.getD a.toNat default=(-1:Int)),d) (.cons rfl (.cons rfl (Sub.nil _))) ⟨b5,((af.mono s).mono b),(aw.mono b),((he359_j45.mono s).mono b),((af.mono s).mono b),h⟩
  obtain⟨a4,h⟩:=Ac h;have s:=s.trans (Ab hH (b8.trans a3));refine Ak 3 rfl rfl rfl FQ aa rfl rfl (AF ((af.mono s).mono b).one (AF (row_one (aa.at (i:=2) rfl)) (AF (row_one (aa.at (i:=1) rfl)) BM))) ?_;intro hc a5 ey;have b:=b.trans (Ab hH ey);refine Bd ⟨b.trans (As hH a5),a5.at (i:=0) rfl⟩ fun kI429=>?_;refine Ea (i:=3) (by kernel_rfl) rfl<|Be rfl rfl Aat BG m a.toNat (Int.toNat_of_nonneg a4.1).symm (AZ a4) rfl ?_;rintro hd _ rfl fs;refine Bd ⟨b.trans (As hH a5),a5.at (i:=0) rfl⟩ fun kI431=>?_;refine AG 4 ae kI431 (by kernel_rfl) rfl (fun _ hI=>Bh rfl Aau rfl (fs.mono (Ai hH)) hI.1) rfl<|AG 5 ae kI431 (by kernel_rfl) rfl (fun _ _=>Ae rfl) rfl<|AG 7 ae kI431 (by kernel_rfl) rfl (fun _ _=>Ae rfl) rfl<|Dz (by kernel_rfl) ?_;have aw:=aw.mono (Ab hH a3);refine A9 (ab,decide (a0.getD a.toNat default=(-1:Int)),d) (.cons rfl (.cons rfl (Sub.nil _))) ⟨a5,((af.mono s).mono b),(aw.mono b),((he359_j45.mono s).mono b),((af.mono s).mono b),h⟩
 rintro⟨b4,a2,bc⟩ gt ⟨bd,f5,he417_j47,he417_j45,ez,h⟩;refine Az ?_;obtain rfl:=Option.some.inj h;refine Cm rfl (.cell rfl Abz rfl FQ (AS (i:=3) bd rfl)) (.tmp rfl) ?_;exact⟨bd.ext,_,_,_,rfl,(ez.mono (Cu hH)),(bd.Gp hH (i:=2) rfl he417_j45),(bd.Gp hH (i:=1) rfl he417_j47)⟩
def FG(a0:((List Int))×(List Int)×(List Int))(a1:Int)(a2:Int):Option (Aas×(Int×Int)):=
 if a1<(0:Int) then none else Option.bind (C4 (a0.1,a0.2.1,a0.2.2)) (fun d=>if d<a1 then none else(if a2<a1 then none else Option.bind (C4 (a0.1,a0.2.1,a0.2.2)) (fun b=>if b<a2 then none else Option.bind (GZ (a0.1,a0.2.1,a0.2.2)) (fun a=>AY (0≤a1∧a1≤a2∧a2≤(a.length:Int)) (Option.bind (CC ((a.drop a1.toNat).take (a2.toNat - a1.toNat))) (fun c=>some (c,((0:Int),(0:Int)))))))))
theorem LH(w:World)(H:PH)(hH:Le H (hp w)){a0:((List Int))×(List Int)×(List Int)}{a1:Int}{a2:Int}{d:Value}{e:Value}{f:Value}(g:AI (.int .i64) H d (a0.1))(j:AI (.int .i64) H e (a0.2.1))(k:AI (.int .i64) H f (a0.2.2)){r:Aas×(Int×Int)}(h:FG a0 a1 a2=some r):
  Ok Tryz.prog 60 [.agg #[d,e,f],No a1,No a2] w (fun v w'=>Ext w w'∧∃ u0,v=.tuple #[u0,.agg #[No r.2.1,No r.2.2]]∧Co 5 .byte H w w' u0 (r.1)):=by
 refine A5 (n:=34) [(0,.agg #[d,e,f]),(1,No a1),(2,No a2)] func60 rfl rfl rfl rfl rfl ?_;have hL:=AR.start w;refine Al<|Cv (t:=98) rfl rfl rfl hL fun w1 b1 am au _=>Ar 1 rfl<|AJ AT rfl rfl am fun w2 b2 q av _=>Ad<|A8<|Bl 3 rfl<|AQ (s:=10) rfl (fun b=>?_) (fun b=>?_)
 ·have h:=A1 (of_decide_eq_true b) h
  iterate 4 refine Aj rfl rfl b rfl ?_
  refine Af (A3 rfl b rfl) rfl<|Ad<|Ce rfl ?_
  cases h
 have h:=A2 (of_decide_eq_false b) h;refine Aa rfl rfl b<|Af (Ae rfl) rfl<|Aa rfl rfl b<|Af (AE 1 rfl Abz rfl FQ q rfl) rfl<|Aa rfl rfl b ?_;obtain⟨x6,an,h⟩:=Go.L.bind_some h;refine Ax rfl rfl q (E4 (a0:=(a0.1,a0.2.1,a0.2.2)) _ _ (As hH q) (g.mono (Ai hH)) (j.mono (Ai hH)) (k.mono (Ai hH)) an) ?_;rintro _ w7 rfl az u aw;refine Aa rfl rfl b<|Af (Ae rfl) rfl<|Af (A7 rfl b rfl) rfl<|Ad<|Bg rfl (fun x=>?_) (fun x=>?_)
 ·have h:=A1 x h
  cases h
 have h:=A2 x h;refine Av<|Ao<|A8<|Bl 4 rfl<|AQ (s:=20) rfl (fun a=>?_) (fun a=>?_)
 ·have h:=A1 (of_decide_eq_true a) h
  iterate 4 refine Aj rfl rfl a rfl ?_
  refine Af (A3 rfl a rfl) rfl<|Ad<|Ce rfl ?_
  cases h
 have h:=A2 (of_decide_eq_false a) h;refine Aa rfl rfl a<|Af (Ae rfl) rfl<|Aa rfl rfl a<|Af (AE 1 rfl Abz rfl FQ u rfl) rfl<|Aa rfl rfl a ?_;obtain⟨a3,ae,h⟩:=Go.L.bind_some h;refine Ax rfl rfl u (E4 (a0:=(a0.1,a0.2.1,a0.2.2)) _ _ (As hH u) (g.mono (Ai hH)) (j.mono (Ai hH)) (k.mono (Ai hH)) ae) ?_;rintro _ a4 rfl ax c ao;refine Aa rfl rfl a<|Af (Ae rfl) rfl<|Af (A7 rfl a rfl) rfl<|Ad<|Bg rfl (fun l=>?_) (fun l=>?_)
 ·have h:=A1 l h
  cases h
 have h:=A2 l h;refine Av<|Ao<|Al<|Af (AE 1 rfl Abz rfl FQ c rfl) rfl ?_;obtain⟨a5,af,h⟩:=Go.L.bind_some h;refine Ax rfl rfl c (MN (a0:=(a0.1,a0.2.1,a0.2.2)) _ _ (As hH c) (g.mono (Ai hH)) (j.mono (Ai hH)) (k.mono (Ai hH)) af) ?_;rintro ap a6 ⟨_,rfl,y⟩ ag m aq;have z:=y.Ct hH c ag;refine Ar 2 rfl ?_;obtain⟨ah,h⟩:=Ac h;refine WC rfl rfl rfl AaQ Lj z ah rfl ?_;intro a7 ai;obtain⟨a8,aj,h⟩:=Go.L.bind_some h;refine Ax rfl rfl m (I4 _ _ (As hH m) ai aj) ?_;rintro ar a9 ⟨_,rfl,aa⟩ ak ab ac;obtain⟨ay,ab,ac,o⟩:=aa.take hH m ak;refine Af (AW rfl (fun _=>BL _)) rfl<|Ar 1 rfl<|Ak 1 rfl rfl rfl AT ab rfl rfl (AF rfl (AF rfl BM)) fun ba p ad=>Ad<|Az ?_;obtain rfl:=Option.some.inj h;refine Cm rfl (.tmp rfl) (.cell rfl AaR rfl AT (AS (i:=1) p rfl)) ?_;have o:=o.mono (Ab hH ad);exact⟨p.ext,_,rfl,(p.Gp hH (i:=0) rfl o)⟩
def Fg(a1:Int):Option ((List Int)):=
 AY (BJ ((0:Int) - (0:Int))) (AY (BJ (a1 - ((0:Int) - (0:Int)))) (if(0:Int)<(a1 - ((0:Int) - (0:Int))) then AY (0<(a1 - ((0:Int) - (0:Int)))∧(a1 - ((0:Int) - (0:Int))) * 8≤281474976710656) (some (([]:List Int))) else some ([])))
def Gw(_a0:List Int)(a1:Int):Option ((List Int)):=
 if a1<(0:Int) then none else(Fg a1)
theorem Mx(w:World)(H:PH)(hH:Le H (hp w)){a0:List Int}{a1:Int}(_:AI (.int .i64) H (Aak) a0){r:(List Int)}(h:Gw a0 a1=some r):
  Ok Tryz.prog 124 [Aak,No a1] w (fun v w'=>Ext w w'∧∃ y,v=y∧Co 3 (.int .i64) H w w' y (r)):=by
 refine A5 (n:=27) [(0,Aak),(1,No a1)] func124 rfl rfl rfl rfl rfl ?_;have hL:=AR.start w;refine AD 1 rfl<|Bm (σ:=Unit) (fun(_:Unit)=>[(0,Aak),(1,No a1)]) (fun(_:Unit) wr=>AR w [] wr∧(Fg a1)=some r) ?_ ?_
 ·refine AD 2 rfl<|Bg rfl (fun c=>?_) (fun c=>?_)
  ·have h:=A1 c h;refine Aq ?_
   cases h
  have h:=A2 c h;refine Av<|A9 () (.cons rfl (.cons rfl (Sub.nil _))) ⟨hL,h⟩
 rintro _ ac ⟨g,h⟩;refine A8<|Bl 2 rfl<|Af (UZ rfl Aat) rfl<|Ar 1 rfl<|Af (QG rfl Aat) rfl ?_;obtain⟨l,h⟩:=Ac h;refine Af (AK rfl rfl rfl l) rfl ?_;obtain⟨o,h⟩:=Ac h;refine Af (AK rfl rfl rfl o) rfl<|AB 1 rfl<|AD 2 rfl<|Bg rfl (fun a=>?_) (fun a=>?_)
 ·have h:=A1 a h;refine Aq<|Ar 2 rfl<|Af (UZ rfl Aat) rfl<|Af (QO rfl rfl Aat BG) rfl<|Ar 1 rfl ?_;obtain⟨ab,h⟩:=Ac h;obtain⟨z,p⟩:=Int.eq_ofNat_of_zero_le (show 0≤(a1 - ((0:Int) - (0:Int))) by omega);refine Va (k:=.i64) (m:=z) rfl (by rw [← p];rfl) Aat Aau BG rfl rfl (by omega) (by omega) (by omega) fun j b f ad q s t u x=>Ar 1 rfl<|Af (QG rfl Aat) rfl<|Af (WE rfl rfl Aat BG) rfl ?_;obtain⟨d,aa⟩:=K0 (v:=.slice (some ⟨j,0,none⟩) 0 b) (e:=3) (sz:=1) (m:=0) (xs:=[]) g q ⟨rfl,.inr ⟨j,b,f,rfl,s,t,Nat.zero_le _,u,by rw [x,Nat.mul_one],rfl⟩⟩;refine Ar 1 rfl<|AL<|Ao<|AD 2 rfl<|Az ?_;obtain rfl:=Option.some.inj h;refine An rfl rfl ?_;exact⟨d.ext,_,rfl,(d.Gp hH (i:=0) rfl .nil)⟩
 have h:=A2 a h;refine Av<|Ao<|AD 2 rfl<|Az ?_;obtain rfl:=Option.some.inj h;refine An rfl rfl ?_;exact⟨g.ext,_,rfl,Co.nil⟩
def Ed(a:List Int):Option ((List Int)):=
 some (a)
def DN(a0:List (List Int)):(List Int)×Int→Option (((List Int)×Int) ⊕ ((List Int))):=fun⟨b,a⟩=>
 if a<(a0.length:Int) then AY (0≤a∧a<(a0.length:Int)) (AY (Go.E.JE 8 (b.length+(a0.getD a.toNat default).length)) (AY (BJ (a+(1:Int))) (some (Sum.inl ((b++a0.getD a.toNat default),(a+(1:Int))))))) else Option.map Sum.inr (Ed b)
def Gl(a0:List (List Int))(s:(List Int)×Int):Option ((List Int)):=Go.L.run (DN a0) s
def Ee(a0:List (List Int))(a:Int):Option ((List Int)):=
 Option.bind (Gw ([]) a) (fun b=>(Gl a0) (b,(0:Int)))
def DO(a0:List (List Int)):Int×Int→Option ((Int×Int) ⊕ ((List Int))):=fun⟨b,a⟩=>
 if a<(a0.length:Int) then AY (0≤a∧a<(a0.length:Int)) (AY (BJ (b+((a0.getD a.toNat default).length:Int))) (if(b+((a0.getD a.toNat default).length:Int))<(0:Int) then none else AY (BJ (a+(1:Int))) (some (Sum.inl ((b+((a0.getD a.toNat default).length:Int)),(a+(1:Int))))))) else Option.map Sum.inr ((Ee a0) b)
def Gm(a0:List (List Int))(s:Int×Int):Option ((List Int)):=Go.L.run (DO a0) s
def FH(a0:List (List Int)):Option ((List Int)):=
 (Gm a0) ((0:Int),(0:Int))
theorem LI(w:World)(H:PH)(hH:Le H (hp w)){a0:List (List Int)}{e:Value}(o:AI (.vec (.int .i64)) H e (a0)){r:(List Int)}(h:FH a0=some r):
  Ok Tryz.prog 75 [e] w (fun v w'=>Ext w w'∧∃ u0,v=u0∧Co 3 (.int .i64) H w w' u0 (r)):=by
 refine A5 (n:=36) [(0,e)] func75 rfl rfl rfl rfl rfl ?_;have hL:=AR.start w;refine AD 1 rfl<|AD 1 rfl<|Bm (σ:=Int) (fun j=>[(0,e),(3,No j)]) (fun j wr=>AR w [] wr∧(Ee a0) j=some r) ?_ ?_
 ·refine Bl 1 rfl<|Af (Bn rfl Ab0 o) rfl<|AB 1 rfl<|A4 ?_;obtain⟨ab,h⟩:=Bb h;refine Bu (σ:=Int×Int×Nat) (fun⟨c,b,n⟩=>[(0,e),(3,No c),(9,e),(10,No (a0.length:Int)),(11,No b)]) (fun⟨c,b,n⟩ wr=>AR w [] wr∧FM (DO a0) n (c,b)=some r) (fun⟨c,b,n⟩=>n) ((0:Int),(0:Int),ab) (.cons rfl (.cons rfl (.cons rfl (.cons rfl (.cons rfl (Sub.nil _)))))) ⟨hL,h⟩ ?_;rintro⟨c,b,nn42⟩ a7 ⟨s,h⟩;obtain⟨ab,bb,rfl,h,ac⟩:=Ba h;refine AD 1 rfl<|A8<|Bg rfl (fun t=>?_) (fun t=>?_)
  ·have h:=A1 t h;refine Av<|Ao<|A8<|A4<|Al ?_;obtain⟨ad,h⟩:=Ac h;refine Be rfl rfl Ab0 RD o b.toNat (Int.toNat_of_nonneg ad.1).symm (AZ ad) rfl ?_;rintro bc _ ⟨e46v0,rfl,e46h0⟩ ao;refine Af (Bh rfl Aat rfl ao (hH.trans s.arg)) rfl<|AB 1 rfl<|Bl 2 rfl<|Af (Bn rfl Aat e46h0) rfl ?_;obtain⟨ap,h⟩:=Ac h;refine Af (AK rfl rfl rfl ap) rfl<|AB 1 rfl<|AD 2 rfl<|Bg rfl (fun u=>?_) (fun u=>?_)
   ·have h:=A1 u h;refine Aq ?_
    cases h
   have h:=A2 u h;refine Av<|AA<|Ao<|Aq ?_;obtain⟨aq,h⟩:=Ac h;refine Af (AK rfl rfl rfl aq) rfl<|Ar 1 rfl<|AL ?_;have h:=BF.again h ac;refine AO ((c+((a0.getD b.toNat default).length:Int)),(b+(1:Int)),ab) (.cons rfl (.cons rfl (.cons rfl (.cons rfl (.cons rfl (Sub.nil _)))))) ⟨s,h⟩ (Nat.lt_succ_self _)
  have h:=A2 t h;refine Bq<|AH<|A6 ?_;have h:=BF.out h ac;refine Bf<|A9 c (.cons rfl (.cons rfl (Sub.nil _))) ⟨s,h⟩
 rintro j a8 ⟨x,h⟩;refine Bl 1 rfl ?_;obtain⟨a4,ar,h⟩:=Go.L.bind_some h;refine Ax rfl rfl x (Mx _ _ (As hH x) (AI.nil _ _) ar) ?_;rintro ak bd ⟨_,rfl,ae⟩ au af al;obtain⟨av,af,al,aw⟩:=ae.take hH x au;refine AB 1 rfl<|Bm (σ:=(List Int)×Value×(List Value)) (fun⟨q,p,k⟩=>[(6,p)]) (fun⟨q,p,k⟩ wr=>DM w [.row (p) 3 1 (q).length (k)] wr fun Oz=>AM (.int .i64) (gz H w wr Oz) (q) (k)∧Ed q=some r) ?_ ?_
 ·refine Bl 1 rfl<|Af (Bn rfl Ab0 o) rfl<|AB 1 rfl<|A4 ?_;obtain⟨ag,h⟩:=Bb h;refine Bu (σ:=(List Int)×Int×Value×(List Value)×Nat) (fun⟨f,a,g,d,n⟩=>[(6,g),(25,e),(26,No (a0.length:Int)),(27,No a)]) (fun⟨f,a,g,d,n⟩ wr=>DM w [.row (g) 3 1 (f).length (d)] wr fun Oz=>AM (.int .i64) (gz H w wr Oz) (f) (d)∧FM (DN a0) n (f,a)=some r) (fun⟨f,a,g,d,n⟩=>n) (a4,(0:Int),ak,av,ag) (.cons rfl (.cons rfl (.cons rfl (.cons rfl (Sub.nil _))))) ⟨af,aw,h⟩ ?_;rintro⟨f,a,g,d,nn92⟩ a9 ⟨y,aa,h⟩;obtain⟨ag,be,rfl,h,ah⟩:=Ba h;refine AD 1 rfl<|A8<|Bg rfl (fun z=>?_) (fun z=>?_)
  ·have h:=A1 z h;refine Av<|Ao<|A8<|A4<|Al ?_;obtain⟨ai,h⟩:=Ac h;refine Be rfl rfl Ab0 RD o a.toNat (Int.toNat_of_nonneg ai.1).symm (AZ ai) rfl ?_;rintro bf _ ⟨e96v0,rfl,e96h0⟩ ax;refine Af (Bh rfl Aat rfl ax (hH.trans y.arg)) rfl<|AB 1 rfl<|Aq<|Ar 2 rfl ?_;obtain⟨ay,h⟩:=Ac h;refine Bo (r:=(.int .i64)) (l:=f) (m:=a0.getD a.toNat default) 0 rfl rfl Aat BG rfl (by decide) rfl hH y rfl aa (e96h0.mono (Ai hH)) ay fun a5 bg az a1 a6 a2=>Ar 1 rfl<|AL<|AA<|Ao<|Aq ?_;obtain⟨am,h⟩:=Ac h;refine Af (AK rfl rfl rfl am) rfl<|Ar 1 rfl<|AL ?_;have h:=BF.again h ah;refine AO ((f++a0.getD a.toNat default),(a+(1:Int)),a5,az,ag) (.cons rfl (.cons rfl (.cons rfl (.cons rfl (Sub.nil _))))) ⟨a1,a2,h⟩ (Nat.lt_succ_self _)
  have h:=A2 z h;refine Bq<|AH<|A6 ?_;have h:=BF.out h ah;refine Bf<|A9 (f,g,d) (.cons rfl (Sub.nil _)) ⟨y,aa,h⟩
 rintro⟨q,p,k⟩ ba ⟨aj,an,h⟩;refine AD 2 rfl<|Az ?_;obtain rfl:=Option.some.inj h;refine An rfl rfl ?_;exact⟨aj.ext,_,rfl,(aj.Gp hH (i:=0) rfl an)⟩
def I0(b:List Int):Option ((((List Int))×(List Int)×(List Int))×(Int×Int)):=
 Option.bind (Gv b) (fun a=>some ((a.1.1,a.1.2.1,a.1.2.2),((0:Int),(0:Int))))
def HD(a0:Aas)(b:(List Int)):(List Int)×Int→Option (((List Int)×Int) ⊕ ((((List Int))×(List Int)×(List Int))×(Int×Int))):=fun⟨c,a⟩=>
 if a<(b.length:Int) then AY (0≤a∧a<(b.length:Int)) (if b.getD a.toNat default=(0:Int) then AY (Go.E.JE 8 (c.length+([(-1:Int)]).length)) (AY (BJ (a+(1:Int))) (some (Sum.inl ((c++[(-1:Int)]),(a+(1:Int)))))) else AY (BJ (b.getD a.toNat default - (1:Int))) (AY (0≤(b.getD a.toNat default - (1:Int))∧(b.getD a.toNat default - (1:Int))<(a0.length:Int)) (AY (Go.E.JE 8 (c.length+([((a0.getD ((b.getD a.toNat default - (1:Int)).toNat) default).toNat:Int)]).length)) (AY (BJ (a+(1:Int))) (some (Sum.inl ((c++[((a0.getD ((b.getD a.toNat default - (1:Int)).toNat) default).toNat:Int)]),(a+(1:Int))))))))) else Option.map Sum.inr (I0 c)
def JQ(a0:Aas)(a:(List Int))(s:(List Int)×Int):Option ((((List Int))×(List Int)×(List Int))×(Int×Int)):=Go.L.run (HD a0 a) s
def JY(a0:Aas):Option ((((List Int))×(List Int)×(List Int))×(Int×Int)):=
 Option.bind (KA a0) (fun a=>if a.2.1=(0:Int)∧a.2.2=(0:Int) then AY (BJ ((a0.length:Int)+(1:Int))) (AY (0≤((a0.length:Int)+(1:Int))∧((8:Nat):Int) * ((a0.length:Int)+(1:Int))≤281474976710656∧((a0.length:Int)+(1:Int))≤9223372036854775807) (Option.bind (FH ([[(a0.length:Int)],a.1])) (fun b=>(JQ a0 b) (([]:List Int),(0:Int))))) else none)
theorem P9(w:World)(H:PH)(hH:Le H (hp w)){a0:Aas}{z:Value}(aa:AI .byte H z (a0)){r:(((List Int))×(List Int)×(List Int))×(Int×Int)}(h:JY a0=some r):
  Ok Tryz.prog 45 [z] w (fun v w'=>Ext w w'∧∃ u0 u1 u2,v=.tuple #[.agg #[u0,u1,u2],.agg #[No r.2.1,No r.2.2]]∧AI (.int .i64) (un H (nw w w')) u0 (r.1.1)∧AI (.int .i64) (un H (nw w w')) u1 (r.1.2.1)∧AI (.int .i64) (un H (nw w w')) u2 (r.1.2.2)):=by
 refine A5 (n:=58) [(0,z)] func45 rfl rfl rfl rfl rfl ?_;have hL:=AR.start w;refine Al<|AJ FQ rfl rfl hL fun w1 b1 cm cz _=>AJ AT rfl rfl cm fun w2 b2 ax c0 _=>Ad<|Bl 1 rfl ?_;obtain⟨x3,cn,h⟩:=Go.L.bind_some h;refine Ax rfl rfl ax (Qt _ _ (As hH ax) (aa.mono (Ai hH)) cn) ?_;rintro _ w4 ⟨c2,rfl,ba⟩ co cp c3;have q:=ba.Ct hH ax co;refine Ar 3 rfl<|AJ AT rfl rfl cp fun w5 b5 cr bx _=>Ar 1 rfl<|Ak 0 rfl rfl rfl AT cr rfl rfl (AF rfl (AF rfl BM)) fun w6 bw bz=>Ad<|A8<|Al<|Af (AE 0 rfl AaR rfl AT bw rfl) rfl<|Af (AW rfl (fun _=>BL _)) rfl<|Af (Kv rfl rfl IC (LA _ _ _ _)) rfl<|Ad<|C9 rfl (fun az=>?_) (fun az=>?_)
 ·have h:=A2 az h
  cases h
 have h:=A1 az h;refine Av<|Ao<|Bl 1 rfl<|Af (Bn rfl AaQ aa) rfl ?_;obtain⟨b0,h⟩:=Ac h;refine Af (AK rfl rfl rfl b0) rfl ?_;obtain⟨b3,h⟩:=Ac h;refine Y1 (H:=H) (r:=(.int .i64)) rfl rfl Aat BG rfl bw b3 fun cs dk b4 b6 bb ai=>AB 1 rfl<|Bm (σ:=(List Int)×Value×(List Value)) (fun⟨af,ab,s⟩=>[(2,(Aam b1)),(3,(Aam b2)),(6,ab)]) (fun⟨af,ab,s⟩ wr=>DM w [.row (ab) 3 1 (af).length (s),.box b5 [No x3.2.1,No x3.2.2] 28,.box b2 [No (0:Int),No (0:Int)] 28,.box b1 [Aak,Aak,Aak] 98] wr fun Oz=>AM (.int .i64) (gz H w wr Oz) (af) (s)∧I0 af=some r) ?_ ?_
 ·refine Bl 1 rfl<|Af (Bn rfl AaQ aa) rfl<|Br (r:=(.int .i64)) (l:=[(a0.length:Int)]) rfl (fun _=>Ig _ _) rfl (show 1≤9223372036854775807 by decide) hH b6 (.c1 rfl .nil) fun dl dm c4 b7 an a1=>Ar 1 rfl ?_;have q:=q.mono (Ab hH (bx.trans (bz.trans (bb.trans an))));refine Br (r:=(.vec (.int .i64))) (l:=[[(a0.length:Int)],x3.1]) rfl (fun _=>Xn _ a1.one _ q.one _) rfl (show 2≤9223372036854775807 by decide) hH b7 (.c1 ⟨_,rfl,a1⟩ (.c1 ⟨_,rfl,q⟩ .nil)) ?_;intro dn dp c5 aj bc b8;obtain⟨t,b9,h⟩:=Go.L.bind_some h;refine Ax rfl rfl aj (LI _ _ (As hH aj) b8 b9) ?_;rintro ao dq ⟨_,rfl,a2⟩ ca cb bd;have ag:=a2.Ct hH aj ca;refine Af (Bn rfl Aat ag) rfl<|AB 1 rfl<|A4 ?_;obtain⟨ap,h⟩:=Bb h;have ai:=ai.mono (Ab hH (an.trans (bc.trans bd)))
  refine Bu (σ:=(List Int)×Int×Value×(List Value)×Nat) (fun⟨j,a,p,k,n⟩=>[(0,z),(2,(Aam b1)),(3,(Aam b2)),(6,p),(30,ao),(31,No (t.length:Int)),(32,No a)]) (fun⟨j,a,p,k,n⟩ wr=>DM w [.row (p) 3 1 (j).length (k),.box b5 [No x3.2.1,No x3.2.2] 28,.box b2 [No (0:Int),No (0:Int)] 28,.box b1 [Aak,Aak,Aak] 98] wr fun Oz=>AI (.int .i64) (gz H w wr Oz) (ao) (t)∧AM (.int .i64) (gz H w wr Oz) (j) (k)∧FM (HD a0 t) n (j,a)=some r) (fun⟨j,a,p,k,n⟩=>n) (([]:List Int),(0:Int),cs,b4,ap) (.cons rfl (.cons rfl (.cons rfl (.cons rfl (.cons rfl (.cons rfl (.cons rfl (Sub.nil _)))))))) ⟨cb,ag,ai,h⟩ ?_;rintro⟨j,a,p,k,nn90⟩ c6 ⟨u,b,g,h⟩;obtain⟨ap,dr,rfl,h,ak⟩:=Ba h;refine AD 1 rfl<|A8<|Bg rfl (fun al=>?_) (fun al=>?_)
  ·have h:=A1 al h;refine Av<|Ao<|A8<|A4<|Al ?_;obtain⟨a3,h⟩:=Ac h;refine Be rfl rfl Aat BG b a.toNat (Int.toNat_of_nonneg a3.1).symm (AZ a3) rfl ?_;rintro ds _ rfl cc;refine Af (Bh rfl Aau rfl cc (As hH u)) rfl<|AB 1 rfl<|AD 2 rfl<|Bg rfl (fun am=>?_) (fun am=>?_)
   ·have h:=A1 am h;refine Aq<|Ar 1 rfl<|Br (r:=(.int .i64)) (l:=[(-1:Int)]) rfl (fun _=>Ig _ _) rfl (show 1≤9223372036854775807 by decide) hH u (.c1 rfl .nil) ?_;intro dt du c7 cd aq ce;obtain⟨be,h⟩:=Ac h;have g:=g.mono (Ab hH aq);refine Bo (r:=(.int .i64)) (l:=j) (m:=[(-1:Int)]) 0 rfl rfl Aat BG rfl (by decide) rfl hH cd rfl g ce be fun ct dv cf cg bf ch=>Ar 1 rfl<|AL<|AA<|Ao<|Aq ?_;obtain⟨bg,h⟩:=Ac h;refine Af (AK rfl rfl rfl bg) rfl<|Ar 1 rfl<|AL ?_;have h:=BF.again h ak;have b:=b.mono (Ab hH (aq.trans bf));refine AO ((j++[(-1:Int)]),(a+(1:Int)),ct,cf,ap) (.cons rfl (.cons rfl (.cons rfl (.cons rfl (.cons rfl (.cons rfl (.cons rfl (Sub.nil _)))))))) ⟨cg,b,ch,h⟩ (Nat.lt_succ_self _)
   have h:=A2 am h;refine Aq<|Ar 3 rfl ?_;obtain⟨bh,h⟩:=Ac h;refine Af (AK rfl rfl rfl bh) rfl ?_;obtain⟨ar,h⟩:=Ac h;refine Be rfl rfl AaQ Lj aa ((t.getD a.toNat default - (1:Int)).toNat) (Int.toNat_of_nonneg ar.1).symm (AZ ar) rfl ?_;rintro c8 _ rfl bi;refine Af (Bh rfl AaS rfl bi (hH.trans u.arg)) rfl<|Af (ES AaS Aau rfl (Ht _)) rfl<|Br (r:=(.int .i64)) (l:=[((a0.getD ((t.getD a.toNat default - (1:Int)).toNat) default).toNat:Int)]) rfl (fun _=>Ig _ _) rfl (show 1≤9223372036854775807 by decide) hH u (.c1 rfl .nil) ?_;intro c9 da cy bj ah bk;obtain⟨bl,h⟩:=Ac h;have g:=g.mono (Ab hH ah);refine Bo (r:=(.int .i64)) (l:=j) (m:=[((a0.getD ((t.getD a.toNat default - (1:Int)).toNat) default).toNat:Int)]) 0 rfl rfl Aat BG rfl (by decide) rfl hH bj rfl g bk bl fun ci db bm bn a4 bo=>Ar 1 rfl<|AL<|AA<|Ao<|Aq ?_;obtain⟨bp,h⟩:=Ac h;refine Af (AK rfl rfl rfl bp) rfl<|Ar 1 rfl<|AL ?_;have h:=BF.again h ak;have b:=b.mono (Ab hH (ah.trans a4))
   refine AO ((j++[((a0.getD ((t.getD a.toNat default - (1:Int)).toNat) default).toNat:Int)]),(a+(1:Int)),ci,bm,ap) (.cons rfl (.cons rfl (.cons rfl (.cons rfl (.cons rfl (.cons rfl (.cons rfl (Sub.nil _)))))))) ⟨bn,b,bo,h⟩ (Nat.lt_succ_self _)
  have h:=A2 al h;refine Bq<|AH<|A6 ?_;have h:=BF.out h ak;refine Bf<|A9 (j,p,k) (.cons rfl (.cons rfl (.cons rfl (Sub.nil _)))) ⟨u,g,h⟩
 rintro⟨af,ab,s⟩ dc ⟨a5,bq,h⟩;refine Bl 1 rfl ?_;have br:=a5.Ct hH (i:=0) rfl bq;have o:=a5.AP (i:=0) rfl;obtain⟨dd,bs,h⟩:=Go.L.bind_some h;refine Ax rfl rfl o (Mw _ _ (As hH o) br bs) ?_;rintro _ de ⟨cu,cv,cw,rfl,au,av,aw⟩ ac bt cx;have d:=au.mono (Cj hH o ac);have e:=av.Ct hH o ac;have f:=aw.Ct hH o ac;refine Ar 3 rfl<|AJ FQ rfl rfl bt fun df dg bu x _=>Ak 0 rfl rfl rfl FQ bu rfl rfl (AF d.one (AF e.one (AF f.one BM))) fun dh ad y=>AB 1 rfl ?_;have c:=ad.rG H;refine Al<|Af (AE 0 rfl Abz rfl FQ ad rfl) rfl<|Af (AW rfl (fun _=>BL _)) rfl ?_;have d:=d.mono (Ab hH (x.trans y));have e:=e.mono (Ab hH (x.trans y));have f:=f.mono (Ab hH (x.trans y));refine Ak 3 rfl rfl rfl FQ ad rfl rfl (AF (d.mono c).one (AF (e.mono c).one (AF (f.mono c).one BM))) fun di bv a6=>Ak 2 rfl rfl rfl AT bv rfl rfl (AF rfl (AF rfl BM)) fun dj ae a7=>Ad<|Az ?_;obtain rfl:=Option.some.inj h
 refine Cm rfl (.cell rfl Abz rfl FQ (AS (i:=3) ae rfl)) (.cell rfl AaR rfl AT (AS (i:=2) ae rfl)) ?_;have c:=c.trans (Ab hH (a6.trans a7));exact⟨ae.ext,_,_,_,rfl,((d.mono c).mono (Cu hH)),((e.mono c).mono (Cu hH)),((f.mono c).mono (Cu hH))⟩
def HE(a0:Go.L.Qv):Option (Int):=
 Option.bind (HA a0.f.2.2.1) (fun a=>if a.1=(0:Int) then(if a0.f.1=(3:Int) then if((!decide ((1:Int)≤a0.f.2.2.2.2.1∧a0.f.2.2.2.2.1≤(2048:Int)))||((decide (a0.f.1=(6:Int)))&&(decide (a0.f.2.2.2.2.2.1<a0.f.2.2.2.2.1)))) then some ((4:Int)) else(if((decide (a0.f.1=(4:Int)))&&(decide ((a0.f.2.2.2.1.length:Int)=(0:Int)))) then some ((10:Int)) else(if(64:Int)<(a0.f.2.2.2.1.length:Int) then some ((3:Int)) else some ((0:Int)))) else if((decide (a0.f.1=(6:Int)))&&(decide (a0.f.2.2.2.2.2.1<a0.f.2.2.2.2.1))) then some ((4:Int)) else(if((decide (a0.f.1=(4:Int)))&&(decide ((a0.f.2.2.2.1.length:Int)=(0:Int)))) then some ((10:Int)) else(if(64:Int)<(a0.f.2.2.2.1.length:Int) then some ((3:Int)) else some ((0:Int))))) else some (a.1))
def F8(a0:Go.L.Qv):Int→Option ((Int) ⊕ (Int)):=fun a=>
 if a<(a0.f.2.1.length:Int) then AY (0≤a∧a<(a0.f.2.1.length:Int)) (Option.bind (J0 (a0.f.2.1.getD a.toNat default)) (fun b=>if b.1=(0:Int) then AY (BJ (a+(1:Int))) (some (Sum.inl (a+(1:Int)))) else Option.map Sum.inr (some (b.1)))) else Option.map Sum.inr ((HE a0))
def L5(a0:Go.L.Qv)(s:Int):Option (Int):=Go.L.run (F8 a0) s
def CQ(a0:Go.L.Qv):Option (Int):=
 (L5 a0) (0:Int)
def DU(a0:Go.L.Qv):Int→Option ((Int) ⊕ (Int)):=fun a=>
 if((decide (a<(a0.f.2.2.2.2.2.2.length:Int)))&&(decide (a0.f.1<(10:Int)))) then AY (0≤a∧a<(a0.f.2.2.2.2.2.2.length:Int)) (if(a0.f.2.2.2.2.2.2.getD a.toNat default).f.1=a0.f.1 then Option.map Sum.inr (some ((6:Int))) else AY (BJ (a+(1:Int))) (some (Sum.inl (a+(1:Int))))) else Option.map Sum.inr ((CQ a0))
def L6(a0:Go.L.Qv)(s:Int):Option (Int):=Go.L.run (DU a0) s
def HF(a0:Go.L.Qv):Option (Int):=
 (L6 a0) (0:Int)
def J9(a0:Go.L.Qv):Option (Int):=
 if(1:Int)≤a0.f.1∧a0.f.1≤(10:Int) then AY (0≤a0.f.1∧a0.f.1<(11:Int)) (AY (0≤a0.f.1∧a0.f.1<(11:Int)) (if(((!decide ((([(0:Int),(1:Int),(2:Int),(2:Int),(0:Int),(0:Int),(0:Int),(0:Int),(0:Int),(0:Int),(0:Int)]:List Int).getD a0.f.1.toNat default)≤(a0.f.2.1.length:Int)∧(a0.f.2.1.length:Int)≤(([(0:Int),(1:Int),(16:Int),(2:Int),(0:Int),(0:Int),(0:Int),(0:Int),(0:Int),(0:Int),(0:Int)]:List Int).getD a0.f.1.toNat default)))||((!decide ((5:Int)≤a0.f.1∧a0.f.1≤(7:Int)))&&(!decide (a0.f.2.2.1=([]:Aas)))))||(((!decide (a0.f.1=(4:Int)))&&(!decide (a0.f.1=(7:Int))))&&(decide ((0:Int)<(a0.f.2.2.2.1.length:Int))))) then some ((6:Int)) else(if((((!decide (a0.f.1=(3:Int)))&&(!decide (a0.f.1=(6:Int))))&&(!decide (a0.f.2.2.2.2.1=(0:Int))))||((!decide (a0.f.1=(6:Int)))&&(!decide (a0.f.2.2.2.2.2.1=(0:Int))))) then some ((6:Int)) else(if(((decide (a0.f.1<(8:Int)))&&(decide ((0:Int)<(a0.f.2.2.2.2.2.2.length:Int))))||((decide (a0.f.1=(10:Int)))&&(!decide ((a0.f.2.2.2.2.2.2.length:Int)=(1:Int))))) then some ((6:Int)) else if((decide ((8:Int)≤a0.f.1∧a0.f.1≤(9:Int)))&&(decide ((a0.f.2.2.2.2.2.2.length:Int)<(2:Int)))) then some ((6:Int)) else(HF a0))))) else some ((5:Int))
theorem OY(w:World)(H:PH)(hH:Le H (hp w)){a0:Go.L.Qv}{am:Value}{an:Value}{ao:Value}(bd:AI .st H am (a0.f.2.1))(av:AI .byte H an (a0.f.2.2.2.1))(aw:AI .AV H ao (a0.f.2.2.2.2.2.2)){r:Int}(h:J9 a0=some r):
  Ok Tryz.prog 67 [.agg #[No a0.f.1,am,Aar a0.f.2.2.1,an,No a0.f.2.2.2.2.1,No a0.f.2.2.2.2.2.1,ao]] w (fun v w'=>Ext w w'∧v=No r):=by
 refine A5 (n:=190) [(0,.agg #[No a0.f.1,am,Aar a0.f.2.2.1,an,No a0.f.2.2.2.2.1,No a0.f.2.2.2.2.2.1,ao])] func67 rfl rfl rfl rfl rfl ?_;have hL:=AR.start w;refine Al<|Cv (t:=26) rfl rfl rfl hL fun w1 b1 bt dh _=>AB 1 rfl<|A8<|Al<|Af (Ag rfl AaY rfl BG (by decide)) rfl<|Af (Ah 0 rfl Aau rfl bt rfl rfl) rfl<|Ax rfl rfl bt (Wk _ _ (As hH bt)) ?_;rintro _ w2 rfl ea cu di;refine AB 1 rfl<|C9 rfl (fun bu=>?_) (fun bu=>?_)
 ·have h:=A2 bu h;refine AD 1 rfl<|Az<|Au ?_;obtain rfl:=Option.some.inj h;refine An rfl rfl ?_;exact⟨cu.ext,rfl⟩
 have h:=A1 bu h;refine Av<|Ao<|Al<|Af (AW rfl (fun _=>GN _ _ _ _ _ _ _ _ _ _ _ _)) rfl<|AJ Vm rfl rfl cu fun w6 b6 cz dj _=>Ak 0 rfl rfl rfl Vm cz rfl rfl (AF rfl (AF rfl (AF rfl (AF rfl (AF rfl (AF rfl (AF rfl (AF rfl (AF rfl (AF rfl (AF rfl BM))))))))))) fun w7 c0 dk=>Ad<|Al<|Af (AW rfl (fun _=>GN _ _ _ _ _ _ _ _ _ _ _ _)) rfl<|AJ Vm rfl rfl c0 fun w8 b8 c1 dl _=>Ak 0 rfl rfl rfl Vm c1 rfl rfl (AF rfl (AF rfl (AF rfl (AF rfl (AF rfl (AF rfl (AF rfl (AF rfl (AF rfl (AF rfl (AF rfl BM))))))))))) fun w9 c2 dm=>Ad ?_;refine A8<|EI (.q 0 (.q 1 (.q 2 (.q 3 (.q 4 (.q 5 (.q 6 (.q 7 (.q 8 (.q 9 (.q 10 (.q 11 (.q 12 (.q 13 (.q 14 (.q 15 (.q 16 (.q 17 (.q 18 (.q 19 (.q 20 (.q 21 (.q 22 (.q 23 (.q 24 (.q 25 (.q 26 (.q 27 (.q 28 (.q 29 (.q 30 (.q 31 (.q 32 (.q 33 (.q 34 (.q 35 (.q 36 (.q 37 (.q 38 (.q 39 (.tail 40))))))))))))))))))))))))))))))))))))))))) mixed (by kernel_rfl) (fun eb cv=>?_);have ab:=c2.call cv;refine BE (Ag rfl AaY rfl Jn (by decide)) rfl rfl<|BE (Ah 2 rfl AaT rfl ab rfl rfl) rfl rfl<|BE (Bn rfl AaT bd) rfl rfl<|BE (Ag rfl AaY rfl BG (by decide)) rfl rfl ?_
 refine BE (Ah 2 rfl Aau rfl ab rfl rfl) rfl rfl ?_;obtain⟨bx,h⟩:=Ac h;refine BE (TP rfl rfl Ab1 BG rfl bx rfl) rfl rfl<|BE (Vv (l:=([(0:Int),(1:Int),(2:Int),(2:Int),(0:Int),(0:Int),(0:Int),(0:Int),(0:Int),(0:Int),(0:Int)]:List Int)) 1 _ rfl Aau ab rfl rfl (AZ bx)) rfl rfl<|BE (Ag rfl AaY rfl BG (by decide)) rfl rfl<|BE (Ah 2 rfl Aau rfl ab rfl rfl) rfl rfl ?_;obtain⟨bz,h⟩:=Ac h;refine BE (TP rfl rfl Ab1 BG rfl bz rfl) rfl rfl<|BE (Vv (l:=([(0:Int),(1:Int),(16:Int),(2:Int),(0:Int),(0:Int),(0:Int),(0:Int),(0:Int),(0:Int),(0:Int)]:List Int)) 0 _ rfl Aau ab rfl rfl (AZ bz)) rfl rfl<|ER rfl rfl rfl (fun ec dn=>Wk _ _ (Le.refl _))<|Ds 2 rfl<|TQ 10 38 (.bool ((!decide ((([(0:Int),(1:Int),(2:Int),(2:Int),(0:Int),(0:Int),(0:Int),(0:Int),(0:Int),(0:Int),(0:Int)]:List Int).getD a0.f.1.toNat default)≤(a0.f.2.1.length:Int)∧(a0.f.2.1.length:Int)≤(([(0:Int),(1:Int),(16:Int),(2:Int),(0:Int),(0:Int),(0:Int),(0:Int),(0:Int),(0:Int),(0:Int)]:List Int).getD a0.f.1.toNat default)))||((!decide ((5:Int)≤a0.f.1∧a0.f.1≤(7:Int)))&&(!decide (a0.f.2.2.1=([]:Aas)))))) (fun b0=>?_) ?_
 ·refine NA (s:=28) rfl (fun j=>?_) (fun j=>?_)
  ·iterate 5 refine S3 rfl rfl rfl rfl j rfl ?_
   iterate 3 refine W4 rfl rfl rfl rfl rfl ?_
   refine S3 rfl rfl rfl rfl j rfl<|BE (A3 rfl j rfl) rfl rfl<|b0.to 9 (O0 j) rfl rfl
  refine Km (Ag rfl AaY rfl BG (by decide)) rfl rfl rfl rfl j rfl<|Km (Ah 2 rfl Aau rfl ab rfl rfl) rfl rfl rfl rfl j rfl<|UT rfl rfl rfl rfl j rfl rfl (fun ed dp=>Wk _ _ (Le.refl _)) ?_
  iterate 2 refine Km (Ae rfl) rfl rfl rfl rfl j rfl ?_
  refine TQ 4 37 (.bool ((!decide ((5:Int)≤a0.f.1∧a0.f.1≤(7:Int)))&&(!decide (a0.f.2.2.1=([]:Aas))))) (fun b2=>?_) ?_
  ·refine NA (s:=33) rfl (fun ah=>?_) (fun ah=>?_)
   ·refine Km (Ag rfl AaY rfl Fo (by decide)) rfl rfl rfl rfl ah rfl<|Km (Ah 2 rfl AaG rfl ab rfl rfl) rfl rfl rfl rfl ah rfl<|Km (MB rfl rfl) rfl rfl rfl rfl ah rfl<|Km (A3 rfl ah rfl) rfl rfl rfl rfl j rfl<|b2.to 3 (Kc ah) rfl rfl
   iterate 3 refine S3 rfl rfl rfl rfl ah rfl ?_
   refine Km (A7 rfl ah rfl) rfl rfl rfl rfl j rfl<|b2.to 3 (Kd ah) rfl rfl
  refine BE (A7 rfl j rfl) rfl rfl<|b0.to 6 (O1 j) rfl rfl
 refine Ds 1 rfl<|TQ 15 54 (.bool (((!decide ((([(0:Int),(1:Int),(2:Int),(2:Int),(0:Int),(0:Int),(0:Int),(0:Int),(0:Int),(0:Int),(0:Int)]:List Int).getD a0.f.1.toNat default)≤(a0.f.2.1.length:Int)∧(a0.f.2.1.length:Int)≤(([(0:Int),(1:Int),(16:Int),(2:Int),(0:Int),(0:Int),(0:Int),(0:Int),(0:Int),(0:Int),(0:Int)]:List Int).getD a0.f.1.toNat default)))||((!decide ((5:Int)≤a0.f.1∧a0.f.1≤(7:Int)))&&(!decide (a0.f.2.2.1=([]:Aas)))))||(((!decide (a0.f.1=(4:Int)))&&(!decide (a0.f.1=(7:Int))))&&(decide ((0:Int)<(a0.f.2.2.2.1.length:Int)))))) (fun b3=>?_) ?_
 ·refine NA (s:=39) rfl (fun c=>?_) (fun c=>?_)
  ·iterate 4 refine S3 rfl rfl rfl rfl c rfl ?_
   iterate 3 refine W4 rfl rfl rfl rfl rfl ?_
   iterate 2 refine S3 rfl rfl rfl rfl c rfl ?_
   iterate 4 refine W4 rfl rfl rfl rfl rfl ?_
   refine S3 rfl rfl rfl rfl c rfl<|BE (A3 rfl c rfl) rfl rfl<|b3.to 14 (O0 c) rfl rfl
  refine Km (Ag rfl AaY rfl BG (by decide)) rfl rfl rfl rfl c rfl<|Km (Ah 2 rfl Aau rfl ab rfl rfl) rfl rfl rfl rfl c rfl ?_
  iterate 2 refine Km (Ae rfl) rfl rfl rfl rfl c rfl ?_
  refine TQ 4 47 (.bool ((!decide (a0.f.1=(4:Int)))&&(!decide (a0.f.1=(7:Int))))) (fun b4=>?_) ?_
  ·refine NA (s:=43) rfl (fun ai=>?_) (fun ai=>?_)
   ·refine Km (Ag rfl AaY rfl BG (by decide)) rfl rfl rfl rfl ai rfl<|Km (Ah 2 rfl Aau rfl ab rfl rfl) rfl rfl rfl rfl ai rfl<|Km (Ae rfl) rfl rfl rfl rfl ai rfl<|Km (A3 rfl ai rfl) rfl rfl rfl rfl c rfl<|b4.to 3 (Kc ai) rfl rfl
   iterate 3 refine S3 rfl rfl rfl rfl ai rfl ?_
   refine Km (A7 rfl ai rfl) rfl rfl rfl rfl c rfl<|b4.to 3 (Kd ai) rfl rfl
  refine Km (Ae rfl) rfl rfl rfl rfl c rfl<|TQ 5 53 (.bool (((!decide (a0.f.1=(4:Int)))&&(!decide (a0.f.1=(7:Int))))&&(decide ((0:Int)<(a0.f.2.2.2.1.length:Int))))) (fun b5=>?_) ?_
  ·refine NA (s:=48) rfl (fun ad=>?_) (fun ad=>?_)
   ·refine Km (Ag rfl AaY rfl Fs (by decide)) rfl rfl rfl rfl ad rfl<|Km (Ah 2 rfl AaQ rfl ab rfl rfl) rfl rfl rfl rfl ad rfl<|Km (Bn rfl AaQ av) rfl rfl rfl rfl ad rfl<|Km (Ae rfl) rfl rfl rfl rfl ad rfl<|Km (A3 rfl ad rfl) rfl rfl rfl rfl c rfl<|b5.to 4 (Kc ad) rfl rfl
   iterate 4 refine S3 rfl rfl rfl rfl ad rfl ?_
   refine Km (A7 rfl ad rfl) rfl rfl rfl rfl c rfl<|b5.to 4 (Kd ad) rfl rfl
  refine BE (A7 rfl c rfl) rfl rfl<|b3.to 7 (O1 c) rfl rfl
 refine BW (fun ee cw=>?_);have d:=ab.call cw;refine Ad<|By rfl (fun be=>?_) (fun be=>?_)
 ·have h:=Bv be h;refine AD 1 rfl<|Az<|Au ?_;obtain rfl:=Option.some.inj h;refine An rfl rfl ?_;exact⟨d.ext,rfl⟩
 have h:=Bw be h;refine Av<|Ao<|A8<|Al<|Af (Ag rfl AaY rfl BG (by decide)) rfl<|Af (Ah 2 rfl Aau rfl d rfl rfl) rfl<|Ar 2 rfl<|G5 4 62 (.bool ((!decide (a0.f.1=(3:Int)))&&(!decide (a0.f.1=(6:Int))))) (fun b7=>?_) ?_
 ·refine AQ (s:=58) rfl (fun aj=>?_) (fun aj=>?_)
  ·refine Aa rfl rfl aj<|Af (Ag rfl AaY rfl BG (by decide)) rfl<|Aa rfl rfl aj<|Af (Ah 2 rfl Aau rfl d rfl rfl) rfl<|Aa rfl rfl aj<|Af (Ae rfl) rfl<|Af (A3 rfl aj rfl) rfl<|b7.to 3 (Kc aj) rfl rfl
  iterate 3 refine Aj rfl rfl aj rfl ?_
  refine Af (A7 rfl aj rfl) rfl<|b7.to 3 (Kd aj) rfl rfl
 refine Ar 1 rfl<|G5 4 67 (.bool (((!decide (a0.f.1=(3:Int)))&&(!decide (a0.f.1=(6:Int))))&&(!decide (a0.f.2.2.2.2.1=(0:Int))))) (fun b9=>?_) ?_
 ·refine AQ (s:=63) rfl (fun ak=>?_) (fun ak=>?_)
  ·refine Aa rfl rfl ak<|Af (Ag rfl AaY rfl BG (by decide)) rfl<|Aa rfl rfl ak<|Af (Ah 2 rfl Aau rfl d rfl rfl) rfl<|Aa rfl rfl ak<|Af (Ae rfl) rfl<|Af (A3 rfl ak rfl) rfl<|b9.to 3 (Kc ak) rfl rfl
  iterate 3 refine Aj rfl rfl ak rfl ?_
  refine Af (A7 rfl ak rfl) rfl<|b9.to 3 (Kd ak) rfl rfl
 refine Ar 1 rfl<|G5 9 77 (.bool ((((!decide (a0.f.1=(3:Int)))&&(!decide (a0.f.1=(6:Int))))&&(!decide (a0.f.2.2.2.2.1=(0:Int))))||((!decide (a0.f.1=(6:Int)))&&(!decide (a0.f.2.2.2.2.2.1=(0:Int)))))) (fun ca=>?_) ?_
 ·refine AQ (s:=68) rfl (fun k=>?_) (fun k=>?_)
  ·iterate 4 refine Aj rfl rfl k rfl ?_
   iterate 3 refine BQ rfl rfl rfl ?_
   refine Aj rfl rfl k rfl<|Af (A3 rfl k rfl) rfl<|ca.to 8 (O0 k) rfl rfl
  refine Aa rfl rfl k<|Af (Ag rfl AaY rfl BG (by decide)) rfl<|Aa rfl rfl k<|Af (Ah 2 rfl Aau rfl d rfl rfl) rfl<|Aa rfl rfl k<|Af (Ae rfl) rfl<|Aa rfl rfl k<|Af (Ae rfl) rfl<|G5 4 76 (.bool ((!decide (a0.f.1=(6:Int)))&&(!decide (a0.f.2.2.2.2.2.1=(0:Int))))) (fun cb=>?_) ?_
  ·refine AQ (s:=72) rfl (fun al=>?_) (fun al=>?_)
   ·refine Aa rfl rfl al<|Af (Ag rfl AaY rfl BG (by decide)) rfl<|Aa rfl rfl al<|Af (Ah 2 rfl Aau rfl d rfl rfl) rfl<|Aa rfl rfl al<|Af (Ae rfl) rfl<|Aa rfl rfl k<|Af (A3 rfl al rfl) rfl<|cb.to 3 (Kc al) rfl rfl
   iterate 3 refine Aj rfl rfl al rfl ?_
   refine Aa rfl rfl k<|Af (A7 rfl al rfl) rfl<|cb.to 3 (Kd al) rfl rfl
  refine Af (A7 rfl k rfl) rfl<|ca.to 5 (O1 k) rfl rfl
 refine Ad<|By rfl (fun bf=>?_) (fun bf=>?_)
 ·have h:=Bv bf h;refine AD 1 rfl<|Az<|Au ?_;obtain rfl:=Option.some.inj h;refine An rfl rfl ?_;exact⟨d.ext,rfl⟩
 have h:=Bw bf h;refine Av<|Ao<|Bm (σ:=Unit) (fun(_:Unit)=>[(1,(Aam b1))]) (fun(_:Unit) wr=>AR w [.box b8 [No (0:Int),No (1:Int),No (16:Int),No (2:Int),No (0:Int),No (0:Int),No (0:Int),No (0:Int),No (0:Int),No (0:Int),No (0:Int)] 173,.box b6 [No (0:Int),No (1:Int),No (2:Int),No (2:Int),No (0:Int),No (0:Int),No (0:Int),No (0:Int),No (0:Int),No (0:Int),No (0:Int)] 173,.box b1 [No a0.f.1,am,Aar a0.f.2.2.1,an,No a0.f.2.2.2.2.1,No a0.f.2.2.2.2.2.1,ao] 26] wr∧(HF a0)=some r) ?_ ?_
 ·refine Al<|Af (Ag rfl AaY rfl BG (by decide)) rfl<|Af (Ah 2 rfl Aau rfl d rfl rfl) rfl<|Ar 2 rfl<|G5 5 86 (.bool ((decide (a0.f.1<(8:Int)))&&(decide ((0:Int)<(a0.f.2.2.2.2.2.2.length:Int))))) (fun cc=>?_) ?_
  ·refine AQ (s:=81) rfl (fun ae=>?_) (fun ae=>?_)
   ·refine Aa rfl rfl ae<|Af (Ag rfl AaY rfl DS (by decide)) rfl<|Aa rfl rfl ae<|Af (Ah 2 rfl Abx rfl d rfl rfl) rfl<|Aa rfl rfl ae<|Af (Bn rfl Abx aw) rfl<|Aa rfl rfl ae<|Af (Ae rfl) rfl<|Af (A3 rfl ae rfl) rfl<|cc.to 4 (Kc ae) rfl rfl
   iterate 4 refine Aj rfl rfl ae rfl ?_
   refine Af (A7 rfl ae rfl) rfl<|cc.to 4 (Kd ae) rfl rfl
  refine Ar 1 rfl<|G5 10 97 (.bool (((decide (a0.f.1<(8:Int)))&&(decide ((0:Int)<(a0.f.2.2.2.2.2.2.length:Int))))||((decide (a0.f.1=(10:Int)))&&(!decide ((a0.f.2.2.2.2.2.2.length:Int)=(1:Int)))))) (fun cd=>?_) ?_
  ·refine AQ (s:=87) rfl (fun m=>?_) (fun m=>?_)
   ·iterate 4 refine Aj rfl rfl m rfl ?_
    iterate 4 refine BQ rfl rfl rfl ?_
    refine Aj rfl rfl m rfl<|Af (A3 rfl m rfl) rfl<|cd.to 9 (O0 m) rfl rfl
   refine Aa rfl rfl m<|Af (Ag rfl AaY rfl BG (by decide)) rfl<|Aa rfl rfl m<|Af (Ah 2 rfl Aau rfl d rfl rfl) rfl<|Aa rfl rfl m<|Af (Ae rfl) rfl<|Aa rfl rfl m<|Af (Ae rfl) rfl<|G5 5 96 (.bool ((decide (a0.f.1=(10:Int)))&&(!decide ((a0.f.2.2.2.2.2.2.length:Int)=(1:Int))))) (fun ce=>?_) ?_
   ·refine AQ (s:=91) rfl (fun af=>?_) (fun af=>?_)
    ·refine Aa rfl rfl af<|Af (Ag rfl AaY rfl DS (by decide)) rfl<|Aa rfl rfl af<|Af (Ah 2 rfl Abx rfl d rfl rfl) rfl<|Aa rfl rfl af<|Af (Bn rfl Abx aw) rfl<|Aa rfl rfl af<|Af (Ae rfl) rfl<|Aa rfl rfl m<|Af (A3 rfl af rfl) rfl<|ce.to 4 (Kc af) rfl rfl
    iterate 4 refine Aj rfl rfl af rfl ?_
    refine Aa rfl rfl m<|Af (A7 rfl af rfl) rfl<|ce.to 4 (Kd af) rfl rfl
   refine Af (A7 rfl m rfl) rfl<|cd.to 5 (O1 m) rfl rfl
  refine Ar 1 rfl<|AQ (s:=98) rfl (fun o=>?_) (fun o=>?_)
  ·have h:=Bv o h
   iterate 4 refine Aj rfl rfl o rfl ?_
   iterate 4 refine BQ rfl rfl rfl ?_
   refine Aj rfl rfl o rfl<|Af (A3 rfl o rfl) rfl<|Ad<|Ce rfl<|AD 1 rfl<|Az<|Bs ?_;obtain rfl:=Option.some.inj h;refine An rfl rfl ?_;exact⟨d.ext,rfl⟩
  have h:=Bw o h;refine Aa rfl rfl o<|Af (Ag rfl AaY rfl BG (by decide)) rfl<|Aa rfl rfl o<|Af (Ah 2 rfl Aau rfl d rfl rfl) rfl<|Aa rfl rfl o<|Ax rfl rfl d (Wk _ _ (As hH d)) ?_;rintro _ ef rfl dq bg da;refine Aa rfl rfl o<|Af (Ae rfl) rfl<|G5 5 107 (.bool ((decide ((8:Int)≤a0.f.1∧a0.f.1≤(9:Int)))&&(decide ((a0.f.2.2.2.2.2.2.length:Int)<(2:Int))))) (fun cf=>?_) ?_
  ·refine AQ (s:=102) rfl (fun ag=>?_) (fun ag=>?_)
   ·refine Aa rfl rfl ag<|Af (Ag rfl AaY rfl DS (by decide)) rfl<|Aa rfl rfl ag<|Af (Ah 2 rfl Abx rfl bg rfl rfl) rfl<|Aa rfl rfl ag<|Af (Bn rfl Abx aw) rfl<|Aa rfl rfl ag<|Af (Ae rfl) rfl<|Aa rfl rfl o<|Af (A3 rfl ag rfl) rfl<|cf.to 4 (Kc ag) rfl rfl
   iterate 4 refine Aj rfl rfl ag rfl ?_
   refine Aa rfl rfl o<|Af (A7 rfl ag rfl) rfl<|cf.to 4 (Kd ag) rfl rfl
  refine Af (A7 rfl o rfl) rfl<|Ad<|By rfl (fun bh=>?_) (fun bh=>?_)
  ·have h:=Bv bh h;refine AD 1 rfl<|Az<|Bs ?_;obtain rfl:=Option.some.inj h;refine An rfl rfl ?_;exact⟨bg.ext,rfl⟩
  have h:=Bw bh h;refine Av<|A9 () (.cons rfl (Sub.nil _)) ⟨bg,h⟩
 rintro _ dr ⟨cx,h⟩;refine Bm (σ:=Unit) (fun(_:Unit)=>[(1,(Aam b1))]) (fun(_:Unit) wr=>AR w [.box b8 [No (0:Int),No (1:Int),No (16:Int),No (2:Int),No (0:Int),No (0:Int),No (0:Int),No (0:Int),No (0:Int),No (0:Int),No (0:Int)] 173,.box b6 [No (0:Int),No (1:Int),No (2:Int),No (2:Int),No (0:Int),No (0:Int),No (0:Int),No (0:Int),No (0:Int),No (0:Int),No (0:Int)] 173,.box b1 [No a0.f.1,am,Aar a0.f.2.2.1,an,No a0.f.2.2.2.2.1,No a0.f.2.2.2.2.2.1,ao] 26] wr∧(CQ a0)=some r) ?_ ?_
 ·refine AD 1 rfl<|A4 ?_;obtain⟨bi,h⟩:=Bb h;refine Bu (σ:=Int×Nat) (fun⟨z,n⟩=>[(1,(Aam b1)),(5,No z)]) (fun⟨z,n⟩ wr=>AR w [.box b8 [No (0:Int),No (1:Int),No (16:Int),No (2:Int),No (0:Int),No (0:Int),No (0:Int),No (0:Int),No (0:Int),No (0:Int),No (0:Int)] 173,.box b6 [No (0:Int),No (1:Int),No (2:Int),No (2:Int),No (0:Int),No (0:Int),No (0:Int),No (0:Int),No (0:Int),No (0:Int),No (0:Int)] 173,.box b1 [No a0.f.1,am,Aar a0.f.2.2.1,an,No a0.f.2.2.2.2.1,No a0.f.2.2.2.2.2.1,ao] 26] wr∧FM (DU a0) n z=some r) (fun⟨z,n⟩=>n) ((0:Int),bi) (.cons rfl (.cons rfl (Sub.nil _))) ⟨cx,h⟩ ?_;rintro⟨z,nn114⟩ db ⟨aq,h⟩;obtain⟨bi,ds,rfl,h,ay⟩:=Ba h;refine A8<|Bl 1 rfl<|Af (Ag rfl AaY rfl DS (by decide)) rfl<|Af (Ah 2 rfl Abx rfl aq rfl rfl) rfl<|Af (Bn rfl Abx aw) rfl<|Ar 2 rfl<|G5 4 118 (.bool ((decide (z<(a0.f.2.2.2.2.2.2.length:Int)))&&(decide (a0.f.1<(10:Int))))) (fun bk=>?_) ?_
  ·refine AQ (s:=114) rfl (fun aa=>?_) (fun aa=>?_)
   ·refine Aa rfl rfl aa<|Af (Ag rfl AaY rfl BG (by decide)) rfl<|Aa rfl rfl aa<|Af (Ah 2 rfl Aau rfl aq rfl rfl) rfl<|Aa rfl rfl aa<|Af (Ae rfl) rfl<|Af (A3 rfl aa rfl) rfl<|bk.to 3 (Kc aa) rfl rfl
   iterate 3 refine Aj rfl rfl aa rfl ?_
   refine Af (A7 rfl aa rfl) rfl<|bk.to 3 (Kd aa) rfl rfl
  refine Ad<|By rfl (fun az=>?_) (fun az=>?_)
  ·have h:=Bv az h;refine Av<|Ao<|A8<|A4<|EI (.q 0 (.q 1 (.q 2 (.q 3 (.q 4 (.q 5 (.q 6 (.q 7 (.q 8 (.tail 9)))))))))) mixed (by kernel_rfl) (fun dt cg=>?_);have ar:=aq.call cg;refine BE (Ag rfl AaY rfl DS (by decide)) rfl rfl<|BE (Ah 2 rfl Abx rfl ar rfl rfl) rfl rfl<|Ds 1 rfl ?_;obtain⟨bl,h⟩:=Ac h;refine H7 rfl rfl rfl Abx Bc aw z.toNat (Int.toNat_of_nonneg bl.1).symm (AZ bl) rfl ?_;rintro du _ e121t0 ch;obtain⟨_,_,rfl,rfl,⟨_,_,rfl,⟨e121v1,rfl,e121h1⟩,⟨_,_,rfl,rfl,⟨_,_,rfl,⟨e121v3,rfl,e121h3⟩,⟨_,_,rfl,rfl,⟨_,_,rfl,rfl,⟨e121v6,rfl,e121h6⟩⟩⟩⟩⟩⟩⟩:=Go.E.Rp.Cn e121t0;refine BE (Ag rfl AaY rfl BG (by decide)) rfl rfl ?_;have ci:=ch.add 0;refine BE (Bh rfl Aau rfl ci (hH.trans ar.arg)) rfl rfl<|BE (Ag rfl AaY rfl BG (by decide)) rfl rfl<|BE (Ah 2 rfl Aau rfl ar rfl rfl) rfl rfl<|Ds 1 rfl<|BW (fun dv cj=>?_);have bm:=ar.call cj;refine Ad<|Bg rfl (fun a1=>?_) (fun a1=>?_)
   ·have h:=A1 a1 h;refine AD 1 rfl<|Az<|Ay<|Au<|BB ?_;have h:=BF.out h ay;refine Ay<|Bs ?_;obtain rfl:=Option.some.inj h;refine An rfl rfl ?_;exact⟨bm.ext,rfl⟩
   have h:=A2 a1 h;refine Av<|AA<|Ao<|Aq<|Ar 1 rfl ?_;obtain⟨ck,h⟩:=Ac h;refine Af (AK rfl rfl rfl ck) rfl<|Ar 1 rfl<|AL ?_;have h:=BF.again h ay;refine AO ((z+(1:Int)),bi) (.cons rfl (.cons rfl (Sub.nil _))) ⟨bm,h⟩ (Nat.lt_succ_self _)
  have h:=Bw az h;refine Bq<|AH<|A6 ?_;have h:=BF.out h ay;refine Bf<|A9 () (.cons rfl (Sub.nil _)) ⟨aq,h⟩
 rintro _ dw ⟨cy,h⟩;refine Bm (σ:=Unit) (fun(_:Unit)=>[(1,(Aam b1))]) (fun(_:Unit) wr=>AR w [.box b8 [No (0:Int),No (1:Int),No (16:Int),No (2:Int),No (0:Int),No (0:Int),No (0:Int),No (0:Int),No (0:Int),No (0:Int),No (0:Int)] 173,.box b6 [No (0:Int),No (1:Int),No (2:Int),No (2:Int),No (0:Int),No (0:Int),No (0:Int),No (0:Int),No (0:Int),No (0:Int),No (0:Int)] 173,.box b1 [No a0.f.1,am,Aar a0.f.2.2.1,an,No a0.f.2.2.2.2.1,No a0.f.2.2.2.2.2.1,ao] 26] wr∧(HE a0)=some r) ?_ ?_
 ·refine AD 1 rfl<|A4 ?_;obtain⟨bj,h⟩:=Bb h;refine Bu (σ:=Int×Nat) (fun⟨ac,n⟩=>[(1,(Aam b1)),(6,No ac)]) (fun⟨ac,n⟩ wr=>AR w [.box b8 [No (0:Int),No (1:Int),No (16:Int),No (2:Int),No (0:Int),No (0:Int),No (0:Int),No (0:Int),No (0:Int),No (0:Int),No (0:Int)] 173,.box b6 [No (0:Int),No (1:Int),No (2:Int),No (2:Int),No (0:Int),No (0:Int),No (0:Int),No (0:Int),No (0:Int),No (0:Int),No (0:Int)] 173,.box b1 [No a0.f.1,am,Aar a0.f.2.2.1,an,No a0.f.2.2.2.2.1,No a0.f.2.2.2.2.2.1,ao] 26] wr∧FM (F8 a0) n ac=some r) (fun⟨ac,n⟩=>n) ((0:Int),bj) (.cons rfl (.cons rfl (Sub.nil _))) ⟨cy,h⟩ ?_;rintro⟨ac,nn179⟩ dc ⟨ap,h⟩;obtain⟨bj,dx,rfl,h,a2⟩:=Ba h;refine A8<|Bl 1 rfl<|Af (Ag rfl AaY rfl Jn (by decide)) rfl<|Af (Ah 2 rfl AaT rfl ap rfl rfl) rfl<|Af (Bn rfl AaT bd) rfl<|AB 1 rfl<|Bg rfl (fun a3=>?_) (fun a3=>?_)
  ·have h:=A1 a3 h;refine Av<|Ao<|A8<|A4<|Al<|Af (Ag rfl AaY rfl Jn (by decide)) rfl<|Af (Ah 2 rfl AaT rfl ap rfl rfl) rfl<|Ar 1 rfl ?_;obtain⟨bn,h⟩:=Ac h;refine Be rfl rfl AaT Fo bd ac.toNat (Int.toNat_of_nonneg bn.1).symm (AZ bn) rfl ?_;rintro dy _ rfl cl;refine Af (Bh rfl AaG rfl cl (hH.trans ap.arg)) rfl ?_;obtain⟨dz,cm,h⟩:=Go.L.bind_some h;refine Ax rfl rfl ap (ON _ _ (As hH ap) cm) ?_;rintro _ d0 rfl dd cn c3;refine AJ AT rfl rfl cn fun d1 d2 co c4 _=>Ak 0 rfl rfl rfl AT co rfl rfl (AF rfl (AF rfl BM)) fun d3 au c5=>Ad<|Al<|Af (Ag rfl AaR rfl BG (by decide)) rfl<|Af (Ah 0 rfl Aau rfl au rfl rfl) rfl<|AB 1 rfl<|C9 rfl (fun a4=>?_) (fun a4=>?_)
   ·have h:=A2 a4 h;refine Al<|Af (Ag rfl AaR rfl BG (by decide)) rfl<|Af (Ah 0 rfl Aau rfl au rfl rfl) rfl<|AB 1 rfl<|Az<|Ay<|Au<|BB ?_;have h:=BF.out h a2;refine Ay<|Bs ?_;obtain rfl:=Option.some.inj h;refine An rfl rfl ?_;exact⟨au.ext,rfl⟩
   have h:=A1 a4 h;refine Av<|AA<|Ao<|Aq<|Ar 1 rfl ?_;obtain⟨cp,h⟩:=Ac h;refine Af (AK rfl rfl rfl cp) rfl<|Ar 1 rfl<|AL ?_;have cq:=au.AP (i:=0) rfl;have h:=BF.again h a2;refine AO ((ac+(1:Int)),bj) (.cons rfl (.cons rfl (Sub.nil _))) ⟨cq,h⟩ (Nat.lt_succ_self _)
  have h:=A2 a3 h;refine Bq<|AH<|A6 ?_;have h:=BF.out h a2;refine Bf<|A9 () (.cons rfl (Sub.nil _)) ⟨ap,h⟩
 rintro _ de ⟨a5,h⟩;refine A8<|Al<|Af (Ag rfl AaY rfl Fo (by decide)) rfl<|Af (Ah 2 rfl AaG rfl a5 rfl rfl) rfl ?_;obtain⟨d4,cr,h⟩:=Go.L.bind_some h;refine Ax rfl rfl a5 (Ni _ _ (As hH a5) cr) ?_;rintro _ d5 rfl df cs c6;refine AJ AT rfl rfl cs fun d6 d7 ct c7 _=>Ak 0 rfl rfl rfl AT ct rfl rfl (AF rfl (AF rfl BM)) fun d8 a c8=>Ad<|Al<|Af (Ag rfl AaR rfl BG (by decide)) rfl<|Af (Ah 0 rfl Aau rfl a rfl rfl) rfl<|AB 1 rfl<|C9 rfl (fun a6=>?_) (fun a6=>?_)
 ·have h:=A2 a6 h;refine Al<|Af (Ag rfl AaR rfl BG (by decide)) rfl<|Af (Ah 0 rfl Aau rfl a rfl rfl) rfl<|AB 1 rfl<|Az<|Au ?_;obtain rfl:=Option.some.inj h;refine An rfl rfl ?_;exact⟨a.ext,rfl⟩
 have h:=A1 a6 h;refine Av<|Ao<|A8<|Al<|Af (Ag rfl AaY rfl BG (by decide)) rfl<|Af (Ah 3 rfl Aau rfl a rfl rfl) rfl<|Ar 2 rfl<|AQ (s:=159) rfl (fun p=>?_) (fun p=>?_)
 ·have h:=A1 (of_decide_eq_true p) h;refine Aa rfl rfl p<|Af (Ag rfl AaY rfl BG (by decide)) rfl<|Aa rfl rfl p<|Af (Ah 3 rfl Aau rfl a rfl rfl) rfl<|Aa rfl rfl p<|Ax rfl rfl a (Wk _ _ (As hH a)) ?_;rintro _ d9 rfl dg u c9;refine Aa rfl rfl p<|Af (Ae rfl) rfl<|Af (A3 rfl p rfl) rfl<|Ar 1 rfl<|G5 11 176 (.bool ((!decide ((1:Int)≤a0.f.2.2.2.2.1∧a0.f.2.2.2.2.1≤(2048:Int)))||((decide (a0.f.1=(6:Int)))&&(decide (a0.f.2.2.2.2.2.1<a0.f.2.2.2.2.1))))) (fun bo=>?_) ?_
  ·refine AQ (s:=165) rfl (fun b=>?_) (fun b=>?_)
   ·iterate 4 refine Aj rfl rfl b rfl ?_
    iterate 5 refine BQ rfl rfl rfl ?_
    refine Aj rfl rfl b rfl<|Af (A3 rfl b rfl) rfl<|bo.to 10 (O0 b) rfl rfl
   refine Aa rfl rfl b<|Af (Ag rfl AaY rfl BG (by decide)) rfl<|Aa rfl rfl b<|Af (Ah 3 rfl Aau rfl u rfl rfl) rfl<|Aa rfl rfl b<|Af (Ae rfl) rfl<|Aa rfl rfl b<|Af (Ae rfl) rfl<|G5 6 175 (.bool ((decide (a0.f.1=(6:Int)))&&(decide (a0.f.2.2.2.2.2.1<a0.f.2.2.2.2.1)))) (fun bp=>?_) ?_
   ·refine AQ (s:=169) rfl (fun e=>?_) (fun e=>?_)
    ·refine Aa rfl rfl e<|Af (Ag rfl AaY rfl BG (by decide)) rfl<|Aa rfl rfl e<|Af (Ah 3 rfl Aau rfl u rfl rfl) rfl<|Aa rfl rfl e<|Af (Ag rfl AaY rfl BG (by decide)) rfl<|Aa rfl rfl e<|Af (Ah 3 rfl Aau rfl u rfl rfl) rfl<|Aa rfl rfl e<|Af (Ae rfl) rfl<|Aa rfl rfl b<|Af (A3 rfl e rfl) rfl ?_;exact bp.to 5 (Kc e) rfl rfl
    iterate 5 refine Aj rfl rfl e rfl ?_
    refine Aa rfl rfl b<|Af (A7 rfl e rfl) rfl<|bp.to 5 (Kd e) rfl rfl
   refine Af (A7 rfl b rfl) rfl<|bo.to 5 (O1 b) rfl rfl
  refine Ad<|By rfl (fun a7=>?_) (fun a7=>?_)
  ·have h:=Bv a7 h;refine AD 1 rfl<|Az<|Au ?_;obtain rfl:=Option.some.inj h;refine An rfl rfl ?_;exact⟨u.ext,rfl⟩
  have h:=Bw a7 h;refine Av<|Ao<|A8<|Al<|Af (Ag rfl AaY rfl BG (by decide)) rfl<|Af (Ah 3 rfl Aau rfl u rfl rfl) rfl<|Ar 2 rfl<|G5 5 185 (.bool ((decide (a0.f.1=(4:Int)))&&(decide ((a0.f.2.2.2.1.length:Int)=(0:Int))))) (fun bq=>?_) ?_
  ·refine AQ (s:=180) rfl (fun x=>?_) (fun x=>?_)
   ·refine Aa rfl rfl x<|Af (Ag rfl AaY rfl Fs (by decide)) rfl<|Aa rfl rfl x<|Af (Ah 3 rfl AaQ rfl u rfl rfl) rfl<|Aa rfl rfl x<|Af (Bn rfl AaQ av) rfl<|Aa rfl rfl x<|Af (Ae rfl) rfl<|Af (A3 rfl x rfl) rfl<|bq.to 4 (Kc x) rfl rfl
   iterate 4 refine Aj rfl rfl x rfl ?_
   refine Af (A7 rfl x rfl) rfl<|bq.to 4 (Kd x) rfl rfl
  refine Ad<|By rfl (fun a8=>?_) (fun a8=>?_)
  ·have h:=Bv a8 h;refine AD 1 rfl<|Az<|Au ?_;obtain rfl:=Option.some.inj h;refine An rfl rfl ?_;exact⟨u.ext,rfl⟩
  have h:=Bw a8 h;refine Av<|Ao<|A8<|Al<|Af (Ag rfl AaY rfl Fs (by decide)) rfl<|Af (Ah 3 rfl AaQ rfl u rfl rfl) rfl<|Af (Bn rfl AaQ av) rfl<|AB 1 rfl<|Bg rfl (fun a9=>?_) (fun a9=>?_)
  ·have h:=A1 a9 h;refine AD 1 rfl<|Az<|Au ?_;obtain rfl:=Option.some.inj h;refine An rfl rfl ?_;exact⟨u.ext,rfl⟩
  have h:=A2 a9 h;refine Av<|Ao<|AD 1 rfl<|Az ?_;obtain rfl:=Option.some.inj h;refine An rfl rfl ?_;exact⟨u.ext,rfl⟩
 have h:=A2 (of_decide_eq_false p) h
 iterate 4 refine Aj rfl rfl p rfl ?_
 refine Af (A7 rfl p rfl) rfl<|Ar 1 rfl<|Aa rfl rfl rfl<|Af (Ag rfl AaY rfl BG (by decide)) rfl<|Aa rfl rfl rfl<|Af (Ah 3 rfl Aau rfl a rfl rfl) rfl<|Aa rfl rfl rfl<|Af (Ae rfl) rfl<|Aa rfl rfl rfl<|Af (Ae rfl) rfl<|G5 6 175 (.bool ((decide (a0.f.1=(6:Int)))&&(decide (a0.f.2.2.2.2.2.1<a0.f.2.2.2.2.1)))) (fun br=>?_) ?_
 ·refine AQ (s:=169) rfl (fun g=>?_) (fun g=>?_)
  ·refine Aa rfl rfl g<|Af (Ag rfl AaY rfl BG (by decide)) rfl<|Aa rfl rfl g<|Af (Ah 3 rfl Aau rfl a rfl rfl) rfl<|Aa rfl rfl g<|Af (Ag rfl AaY rfl BG (by decide)) rfl<|Aa rfl rfl g<|Af (Ah 3 rfl Aau rfl a rfl rfl) rfl<|Aa rfl rfl g<|Af (Ae rfl) rfl<|Aa rfl rfl rfl<|Af (A3 rfl g rfl) rfl ?_;exact br.to 5 (Kc g) rfl rfl
  iterate 5 refine Aj rfl rfl g rfl ?_
  refine Aa rfl rfl rfl<|Af (A7 rfl g rfl) rfl<|br.to 5 (Kd g) rfl rfl
 refine Af (A7 rfl rfl rfl) rfl<|Ad<|By rfl (fun ba=>?_) (fun ba=>?_)
 ·have h:=Bv ba h;refine AD 1 rfl<|Az<|Au ?_;obtain rfl:=Option.some.inj h;refine An rfl rfl ?_;exact⟨a.ext,rfl⟩
 have h:=Bw ba h;refine Av<|Ao<|A8<|Al<|Af (Ag rfl AaY rfl BG (by decide)) rfl<|Af (Ah 3 rfl Aau rfl a rfl rfl) rfl<|Ar 2 rfl<|G5 5 185 (.bool ((decide (a0.f.1=(4:Int)))&&(decide ((a0.f.2.2.2.1.length:Int)=(0:Int))))) (fun bs=>?_) ?_
 ·refine AQ (s:=180) rfl (fun y=>?_) (fun y=>?_)
  ·refine Aa rfl rfl y<|Af (Ag rfl AaY rfl Fs (by decide)) rfl<|Aa rfl rfl y<|Af (Ah 3 rfl AaQ rfl a rfl rfl) rfl<|Aa rfl rfl y<|Af (Bn rfl AaQ av) rfl<|Aa rfl rfl y<|Af (Ae rfl) rfl<|Af (A3 rfl y rfl) rfl<|bs.to 4 (Kc y) rfl rfl
  iterate 4 refine Aj rfl rfl y rfl ?_
  refine Af (A7 rfl y rfl) rfl<|bs.to 4 (Kd y) rfl rfl
 refine Ad<|By rfl (fun bb=>?_) (fun bb=>?_)
 ·have h:=Bv bb h;refine AD 1 rfl<|Az<|Au ?_;obtain rfl:=Option.some.inj h;refine An rfl rfl ?_;exact⟨a.ext,rfl⟩
 have h:=Bw bb h;refine Av<|Ao<|A8<|Al<|Af (Ag rfl AaY rfl Fs (by decide)) rfl<|Af (Ah 3 rfl AaQ rfl a rfl rfl) rfl<|Af (Bn rfl AaQ av) rfl<|AB 1 rfl<|Bg rfl (fun bc=>?_) (fun bc=>?_)
 ·have h:=A1 bc h;refine AD 1 rfl<|Az<|Au ?_;obtain rfl:=Option.some.inj h;refine An rfl rfl ?_;exact⟨a.ext,rfl⟩
 have h:=A2 bc h;refine Av<|Ao<|AD 1 rfl<|Az ?_;obtain rfl:=Option.some.inj h;refine An rfl rfl ?_;exact⟨a.ext,rfl⟩
def JA(a:Int):Option (Int×(Int×Int)):=
 some (a,((0:Int),(0:Int)))
def E8(a0:Go.L.Qv)(a2:Int)(self:Go.L.Qv→Int→Int→Option (Int×(Int×Int))):Int×Int→Option ((Int×Int) ⊕ (Int×(Int×Int))):=fun⟨b,a⟩=>
 if a<(a0.f.2.2.2.2.2.2.length:Int) then AY (0≤a∧a<(a0.f.2.2.2.2.2.2.length:Int)) (AY (BJ (a2+(1:Int))) (Option.bind (self (a0.f.2.2.2.2.2.2.getD a.toNat default) b (a2+(1:Int))) (fun c=>if c.2.1=(0:Int) then AY (BJ (a+(1:Int))) (some (Sum.inl (c.1,(a+(1:Int))))) else Option.map Sum.inr (some ((0:Int),(c.2.1,c.2.2)))))) else Option.map Sum.inr (JA b)
def My(a0:Go.L.Qv)(a2:Int)(self:Go.L.Qv→Int→Int→Option (Int×(Int×Int)))(s:Int×Int):Option (Int×(Int×Int)):=Go.L.run (E8 a0 a2 self) s
def Gx(self:Go.L.Qv→Int→Int→Option (Int×(Int×Int)))(a0:Go.L.Qv)(a1:Int)(a2:Int):Option (Int×(Int×Int)):=
 if((40:Int)≤a1)∨((8:Int)<a2) then Option.bind (H9 (2:Int) a1) (fun b=>some ((0:Int),(b.1,b.2))) else Option.bind (J9 a0) (fun c=>if c=(0:Int) then AY (BJ (a1+(1:Int))) ((My a0 a2 self) ((a1+(1:Int)),(0:Int))) else Option.bind (H9 c a1) (fun a=>some ((0:Int),(a.1,a.2))))
def DV:Nat→Go.L.Qv→Int→Int→Option (Int×(Int×Int))
 | 0=>fun _ _ _=>none
 | n+1=>Gx (DV n)
def Lc:Go.L.Qv→Int→Int→Option (Int×(Int×Int)):=DV 1000
theorem M0(self:Go.L.Qv→Int→Int→Option (Int×(Int×Int)))(hself:∀ (w:World) (H:PH) (hH:Le H (hp w)) {a0:Go.L.Qv} {a1:Int} {a2:Int} {b:Value} {c:Value} {d:Value} (ab:AI .st H b (a0.f.2.1)) (ac:AI .byte H c (a0.f.2.2.2.1)) (k:AI .AV H d (a0.f.2.2.2.2.2.2)) {r:Int×(Int×Int)} (h:self a0 a1 a2=some r),Ok Tryz.prog 35 [.agg #[No a0.f.1,b,Aar a0.f.2.2.1,c,No a0.f.2.2.2.2.1,No a0.f.2.2.2.2.2.1,d],No a1,No a2] w (fun v w'=>Ext w w'∧v=.tuple #[No r.1,.agg #[No r.2.1,No r.2.2]]))(w:World)(H:PH)(hH:Le H (hp w)){a0:Go.L.Qv}{a1:Int}{a2:Int}{b:Value}{c:Value}{d:Value}(ab:AI .st H b (a0.f.2.1))(ac:AI .byte H c (a0.f.2.2.2.1))(k:AI .AV H d (a0.f.2.2.2.2.2.2)){r:Int×(Int×Int)}(h:Gx self a0 a1 a2=some r):
  Ok Tryz.prog 35 [.agg #[No a0.f.1,b,Aar a0.f.2.2.1,c,No a0.f.2.2.2.2.1,No a0.f.2.2.2.2.2.1,d],No a1,No a2] w (fun v w'=>Ext w w'∧v=.tuple #[No r.1,.agg #[No r.2.1,No r.2.2]]):=by
 refine A5 (n:=56) [(0,.agg #[No a0.f.1,b,Aar a0.f.2.2.1,c,No a0.f.2.2.2.2.1,No a0.f.2.2.2.2.2.1,d]),(1,No a1),(2,No a2)] func35 rfl rfl rfl rfl rfl ?_;have hL:=AR.start w;refine Al<|Cv (t:=26) rfl rfl rfl hL fun w1 b1 a3 bg _=>Ar 1 rfl<|AJ AT rfl rfl a3 fun w2 b2 l bh _=>Ad<|A8<|Bl 3 rfl<|R6 2 2 rfl rfl rfl rfl rfl rfl<|Ad<|Bg rfl (fun ad=>?_) (fun ad=>?_)
 ·have h:=A1 ad h;refine Bl 1 rfl ?_;obtain⟨x5,a4,h⟩:=Go.L.bind_some h;refine Ax rfl rfl l (Gi _ _ (As hH l) a4) ?_;rintro _ w6 rfl bs a5 bi;refine Ar 1 rfl<|Ak 0 rfl rfl rfl AT a5 rfl rfl (AF rfl (AF rfl BM)) fun w7 am bj=>Ad<|Az<|Au ?_;obtain rfl:=Option.some.inj h;refine Cm rfl (.tmp rfl) (.cell rfl AaR rfl AT (AS (i:=0) am rfl)) ?_;exact⟨am.ext,rfl⟩
 have h:=A2 ad h;refine Av<|Ao<|A8<|Al<|Af (AE 1 rfl AaY rfl Bc l rfl) rfl ?_;obtain⟨x9,a6,h⟩:=Go.L.bind_some h;refine Ax rfl rfl l (OY (a0:=a0) _ _ (As hH l) (ab.mono (Ai hH)) (ac.mono (Ai hH)) (k.mono (Ai hH)) a6) ?_;rintro _ bt rfl bk m ba;refine AB 1 rfl<|AD 2 rfl<|C9 rfl (fun o=>?_) (fun o=>?_)
 ·have h:=A2 o h;refine Bl 2 rfl ?_;obtain⟨bu,ao,h⟩:=Go.L.bind_some h;refine Ax rfl rfl m (Gi _ _ (As hH m) ao) ?_;rintro _ bv rfl bl ap bb;refine Ar 1 rfl<|Ak 0 rfl rfl rfl AT ap rfl rfl (AF rfl (AF rfl BM)) fun bw ae bc=>Ad<|Az<|Au ?_;obtain rfl:=Option.some.inj h;refine Cm rfl (.tmp rfl) (.cell rfl AaR rfl AT (AS (i:=0) ae rfl)) ?_;exact⟨ae.ext,rfl⟩
 have h:=A1 o h;refine Av<|Ao<|Bl 1 rfl ?_;obtain⟨aq,h⟩:=Ac h;refine Af (AK rfl rfl rfl aq) rfl<|AB 1 rfl<|Bm (σ:=Int) (fun j=>[(7,(Aam b2)),(9,No j)]) (fun j wr=>AR w [.box b2 [No (0:Int),No (0:Int)] 28,.box b1 [No a0.f.1,b,Aar a0.f.2.2.1,c,No a0.f.2.2.2.2.1,No a0.f.2.2.2.2.2.1,d] 26] wr∧JA j=some r) ?_ ?_
 ·refine AD 1 rfl<|A4 ?_;obtain⟨af,h⟩:=Bb h;refine Bu (σ:=Int×Int×Nat) (fun⟨e,a,n⟩=>[(2,No a2),(3,(Aam b1)),(7,(Aam b2)),(9,No e),(10,No a)]) (fun⟨e,a,n⟩ wr=>AR w [.box b2 [No (0:Int),No (0:Int)] 28,.box b1 [No a0.f.1,b,Aar a0.f.2.2.1,c,No a0.f.2.2.2.2.1,No a0.f.2.2.2.2.2.1,d] 26] wr∧FM (E8 a0 a2 self) n (e,a)=some r) (fun⟨e,a,n⟩=>n) ((a1+(1:Int)),(0:Int),af) (.cons rfl (.cons rfl (.cons rfl (.cons rfl (.cons rfl (Sub.nil _)))))) ⟨m,h⟩ ?_;rintro⟨e,a,nn86⟩ bm ⟨g,h⟩;obtain⟨af,bx,rfl,h,p⟩:=Ba h;refine A8<|Bl 1 rfl<|Af (Ag rfl AaY rfl DS (by decide)) rfl<|Af (Ah 1 rfl Abx rfl g rfl rfl) rfl<|Af (Bn rfl Abx k) rfl<|AB 1 rfl<|Bg rfl (fun s=>?_) (fun s=>?_)
  ·have h:=A1 s h;refine Av<|Ao<|A8<|A4<|Al<|Af (Ag rfl AaY rfl DS (by decide)) rfl<|Af (Ah 1 rfl Abx rfl g rfl rfl) rfl<|Ar 1 rfl ?_;obtain⟨ag,h⟩:=Ac h;refine Be rfl rfl Abx Bc k a.toNat (Int.toNat_of_nonneg ag.1).symm (AZ ag) rfl ?_;rintro bz _ e90t0 ar;obtain⟨_,_,rfl,rfl,⟨_,_,rfl,⟨e90v1,rfl,e90h1⟩,⟨_,_,rfl,rfl,⟨_,_,rfl,⟨e90v3,rfl,e90h3⟩,⟨_,_,rfl,rfl,⟨_,_,rfl,rfl,⟨e90v6,rfl,e90h6⟩⟩⟩⟩⟩⟩⟩:=Go.E.Rp.Cn e90t0;refine Af (Cd rfl AaY rfl Bc ar (hH.trans g.arg)) rfl<|Ar 2 rfl ?_;obtain⟨au,h⟩:=Ac h;refine Af (AK rfl rfl rfl au) rfl ?_;obtain⟨a7,av,h⟩:=Go.L.bind_some h;refine Ax rfl rfl g (hself _ _ (As hH g) (e90h1.mono (Ai hH)) (e90h3.mono (Ai hH)) (e90h6.mono (Ai hH)) av) ?_;rintro _ b0 rfl bn aw bd;refine Ar 3 rfl<|AJ AT rfl rfl aw fun b3 b4 ax be _=>Ar 1 rfl<|Ak 0 rfl rfl rfl AT ax rfl rfl (AF rfl (AF rfl BM)) fun b5 u bf=>Ad<|A8<|Al<|Af (Ag rfl AaR rfl BG (by decide)) rfl<|Af (Ah 0 rfl Aau rfl u rfl rfl) rfl<|AB 1 rfl<|C9 rfl (fun x=>?_) (fun x=>?_)
   ·have h:=A2 x h;refine EI (.q 0 (.q 1 (.tail 2))) mixed (by kernel_rfl) (fun b6 ay=>?_);have y:=u.call ay;refine BE (AE 0 rfl AaR rfl AT y rfl) rfl rfl<|Ds 1 rfl<|BW (fun bo ai=>?_);have aj:=y.call ai;refine Ak 1 rfl rfl rfl AT aj rfl rfl (AF rfl (AF rfl BM)) fun bp z a8=>Ad<|Az<|Au<|Ay<|Au<|BB ?_;have h:=BF.out h p;refine Ay<|Bs ?_;obtain rfl:=Option.some.inj h;refine Cm rfl (.tmp rfl) (.cell rfl AaR rfl AT (AS (i:=1) z rfl)) ?_;exact⟨z.ext,rfl⟩
   have h:=A1 x h;refine Av<|Ao<|Aq<|Ar 2 rfl<|AL<|AA<|Ao<|Aq<|Ar 1 rfl ?_;obtain⟨ak,h⟩:=Ac h;refine Af (AK rfl rfl rfl ak) rfl<|Ar 1 rfl<|AL ?_;have al:=u.AP (i:=0) rfl;have h:=BF.again h p;refine AO (a7.1,(a+(1:Int)),af) (.cons rfl (.cons rfl (.cons rfl (.cons rfl (.cons rfl (Sub.nil _)))))) ⟨al,h⟩ (Nat.lt_succ_self _)
  have h:=A2 s h;refine Bq<|AH<|A6 ?_;have h:=BF.out h p;refine Bf<|A9 e (.cons rfl (.cons rfl (Sub.nil _))) ⟨g,h⟩
 rintro j bq ⟨az,h⟩;refine Bl 1 rfl<|Af (AW rfl (fun _=>BL _)) rfl<|Ar 1 rfl<|Ak 0 rfl rfl rfl AT az rfl rfl (AF rfl (AF rfl BM)) fun br aa a9=>Ad<|Az ?_;obtain rfl:=Option.some.inj h;refine Cm rfl (.tmp rfl) (.cell rfl AaR rfl AT (AS (i:=0) aa rfl)) ?_;exact⟨aa.ext,rfl⟩
theorem NW(n:Nat):∀ (w:World) (H:PH) (hH:Le H (hp w)) {a0:Go.L.Qv} {a1:Int} {a2:Int} {a:Value} {b:Value} {c:Value} (d:AI .st H a (a0.f.2.1)) (e:AI .byte H b (a0.f.2.2.2.1)) (g:AI .AV H c (a0.f.2.2.2.2.2.2)) {r:Int×(Int×Int)} (h:DV n a0 a1 a2=some r),Ok Tryz.prog 35 [.agg #[No a0.f.1,a,Aar a0.f.2.2.1,b,No a0.f.2.2.2.2.1,No a0.f.2.2.2.2.2.1,c],No a1,No a2] w (fun v w'=>Ext w w'∧v=.tuple #[No r.1,.agg #[No r.2.1,No r.2.2]]):=by
 induction n with
 | zero=>intros;rename_i h;cases h
 | succ n ih=>exact @M0 (DV n) ih
theorem OZ(w:World)(H:PH)(hH:Le H (hp w)){a0:Go.L.Qv}{a1:Int}{a2:Int}{a:Value}{b:Value}{c:Value}(d:AI .st H a (a0.f.2.1))(e:AI .byte H b (a0.f.2.2.2.1))(g:AI .AV H c (a0.f.2.2.2.2.2.2)){r:Int×(Int×Int)}(h:Lc a0 a1 a2=some r):Ok Tryz.prog 35 [.agg #[No a0.f.1,a,Aar a0.f.2.2.1,b,No a0.f.2.2.2.2.1,No a0.f.2.2.2.2.2.1,c],No a1,No a2] w (fun v w'=>Ext w w'∧v=.tuple #[No r.1,.agg #[No r.2.1,No r.2.2]]):=NW 1000 w H hH d e g h
def Hp(c:Aas)(a:Int)(b:Int):Option ((Aas×Int) ⊕ (Aas)):=
 AY (BJ ((48:Int)+b)) (AY (Go.E.JE 1 (([(Go.L.u8 ((48:Int)+b))]).length+c.length)) (AY (-9223372036854775808≤a∧a≤9223372036854775807∧0<(10:Int)) (some (Sum.inl (([(Go.L.u8 ((48:Int)+b))]++c),(Int.tdiv a (10:Int)))))))
def Kr(a0:Int)(a:Aas):Option (Aas):=
 if a0<(0:Int) then AY (Go.E.JE 1 (([(45:UInt8)]).length+a.length)) (some (([(45:UInt8)]++a))) else some (a)
def DW(a0:Int):Aas×Int→Option ((Aas×Int) ⊕ (Aas)):=fun⟨b,a⟩=>
 if a=(0:Int) then Option.map Sum.inr ((Kr a0) b) else AY (-9223372036854775808≤a∧a≤9223372036854775807∧0<(10:Int)) (if(Int.tmod a (10:Int))<(0:Int) then AY (BJ (-(Int.tmod a (10:Int)))) ((Hp b a) (-(Int.tmod a (10:Int)))) else(Hp b a) (Int.tmod a (10:Int)))
def MH(a0:Int)(s:Aas×Int):Option (Aas):=Go.L.run (DW a0) s
def I1(a0:Int):Option (Aas):=
 if a0=(0:Int) then some (([48]:Aas)) else(MH a0) (([]:Aas),a0)
theorem Ks(w:World)(H:PH)(hH:Le H (hp w)){a0:Int}{r:Aas}(h:I1 a0=some r):
  Ok Tryz.prog 40 [No a0] w (fun v w'=>Ext w w'∧v=(Aar r)):=by
 refine A5 (n:=32) [(0,No a0)] func40 rfl rfl rfl rfl rfl ?_;have hL:=AR.start w;refine AD 1 rfl<|A8<|AD 2 rfl<|Bg rfl (fun z=>?_) (fun z=>?_)
 ·have h:=A1 z h;refine AD 1 rfl<|Az<|Au ?_;obtain rfl:=Option.some.inj h;refine An rfl rfl ?_;exact⟨hL.ext,rfl⟩
 have h:=A2 z h;refine Av<|Ao<|AD 1 rfl<|Bm (σ:=Aas×Value×(List Value)) (fun⟨k,o,g⟩=>[(0,No a0),(3,o)]) (fun⟨k,o,g⟩ wr=>DM w [.row (o) 5 1 (k).length (g)] wr fun Oz=>AM .byte (gz H w wr Oz) (k) (g)∧(Kr a0) k=some r) ?_ ?_
 ·refine AD 2 rfl<|A4 ?_;obtain⟨ah,a3,ai⟩:=Ck .byte H 5 hL;obtain⟨aa,h⟩:=Bb h;refine Bu (σ:=Aas×Int×Value×(List Value)×Nat) (fun⟨e,a,f,b,n⟩=>[(0,No a0),(3,f),(4,No a)]) (fun⟨e,a,f,b,n⟩ wr=>DM w [.row (f) 5 1 (e).length (b)] wr fun Oz=>AM .byte (gz H w wr Oz) (e) (b)∧FM (DW a0) n (e,a)=some r) (fun⟨e,a,f,b,n⟩=>n) (([]:Aas),a0,Aak,[],aa) (.cons rfl (.cons rfl (.cons rfl (Sub.nil _)))) ⟨ah,ai,h⟩ ?_;rintro⟨e,a,f,b,nn64⟩ a6 ⟨p,c,h⟩;obtain⟨aa,a1,rfl,h,ab⟩:=Ba h;refine A8<|AD 2 rfl<|C9 rfl (fun q=>?_) (fun q=>?_)
  ·have h:=A2 q h;refine Av<|Ao<|A8<|A4<|Bl 1 rfl ?_;obtain⟨aj,h⟩:=Ac h;refine Af (Aaf rfl rfl aj) rfl<|AB 1 rfl<|Bm (σ:=Int) (fun d=>[(0,No a0),(3,f),(4,No a),(5,No d)]) (fun d wr=>DM w [.row (f) 5 1 (e).length (b)] wr fun Oz=>AM .byte (gz H w wr Oz) (e) (b)∧(Hp e a) d=some a1) ?_ ?_
   ·refine AD 2 rfl<|Bg rfl (fun s=>?_) (fun s=>?_)
    ·have h:=A1 s h;refine Aq<|Ar 1 rfl ?_;obtain⟨ak,h⟩:=Ac h;refine Af (Aa3 rfl ak) rfl<|Ar 1 rfl<|AL<|A9 (-(Int.tmod a (10:Int))) (.cons rfl (.cons rfl (.cons rfl (.cons rfl (Sub.nil _))))) ⟨p,c,h⟩
    have h:=A2 s h;refine Av<|A9 (Int.tmod a (10:Int)) (.cons rfl (.cons rfl (.cons rfl (.cons rfl (Sub.nil _))))) ⟨p,c,h⟩
   rintro d a7 ⟨al,c,h⟩;refine Aq<|Ar 1 rfl ?_;obtain⟨am,h⟩:=Ac h;refine Af (AK rfl rfl rfl am) rfl<|Af (ES Aau AaS rfl (HO _)) rfl<|JJ (r:=.byte) (l:=[(Go.L.u8 ((48:Int)+d))]) rfl (fun _=>Ie _ _) rfl (show 1≤9223372036854775807 by decide) hH al (.c1 rfl .nil) fun bc bd a8 ac af t=>Ar 1 rfl ?_;have c:=c.mono (Ab hH af);have an:=ac.Ct hH (i:=1) rfl c;have ao:=ac.AP (i:=1) rfl;obtain⟨ap,h⟩:=Ac h;have t:=t.mono (Ab hH (Am (i:=1) rfl));refine Bo (r:=.byte) (l:=[(Go.L.u8 ((48:Int)+d))]) (m:=e) 0 rfl rfl AaQ Lj rfl (by decide) rfl hH ao rfl t an ap fun a2 be aq ar a4 au=>Ar 1 rfl<|AL<|AA<|Ao<|Aq<|Ar 1 rfl ?_;obtain⟨av,h⟩:=Ac h;refine Af (Aae rfl rfl av) rfl<|Ar 1 rfl<|AL ?_;have h:=BF.again h ab;refine AO (([(Go.L.u8 ((48:Int)+d))]++e),(Int.tdiv a (10:Int)),a2,aq,aa) (.cons rfl (.cons rfl (.cons rfl (Sub.nil _)))) ⟨ar,au,h⟩ (Nat.lt_succ_self _)
  have h:=A1 q h;refine Bq<|AH<|A6 ?_;have h:=BF.out h ab;refine Bf<|A9 (e,f,b) (.cons rfl (.cons rfl (Sub.nil _))) ⟨p,c,h⟩
 rintro⟨k,o,g⟩ a9 ⟨u,j,h⟩;refine A8<|AD 2 rfl<|Bg rfl (fun x=>?_) (fun x=>?_)
 ·have h:=A1 x h;refine Aq<|JJ (r:=.byte) (l:=[(45:UInt8)]) rfl (fun _=>Ie _ _) rfl (show 1≤9223372036854775807 by decide) hH u (.c1 rfl .nil) fun bf bg ba ad ag y=>Ar 1 rfl ?_;have j:=j.mono (Ab hH ag);have aw:=ad.Ct hH (i:=1) rfl j;have ax:=ad.AP (i:=1) rfl;obtain⟨ay,h⟩:=Ac h;have y:=y.mono (Ab hH (Am (i:=1) rfl));refine Bo (r:=.byte) (l:=[(45:UInt8)]) (m:=k) 0 rfl rfl AaQ Lj rfl (by decide) rfl hH ax rfl y aw ay fun bh bi bb ae a5 az=>Ar 1 rfl<|AL<|Ao<|Bl 1 rfl<|Af (M9 rfl AaQ AaS AaG (ae.S8 hH (i:=0) rfl az) (Le.refl _)) rfl<|AB 1 rfl<|Az ?_;obtain rfl:=Option.some.inj h;refine An rfl rfl ?_;exact⟨ae.ext,rfl⟩
 have h:=A2 x h;refine Av<|Ao<|Bl 1 rfl<|Af (M9 rfl AaQ AaS AaG (u.S8 hH (i:=0) rfl j) (Le.refl _)) rfl<|AB 1 rfl<|Az ?_;obtain rfl:=Option.some.inj h;refine An rfl rfl ?_;exact⟨u.ext,rfl⟩
def GG(a0:Aas)(b:Aas)(a:Int)(c:Bool):Option ((Aas×Int) ⊕ (Aas)):=
 if c then AY (0≤a∧a<(a0.length:Int)) (AY (Go.E.JE 1 (b.length+([a0.getD a.toNat default]).length)) (AY (BJ (a+(1:Int))) (some (Sum.inl ((b++[a0.getD a.toNat default]),(a+(1:Int))))))) else AY (0≤a∧a<(a0.length:Int)) (AY (0≤((a0.getD a.toNat default).toNat:Int)∧((a0.getD a.toNat default).toNat:Int)≤9223372036854775807∧0<(16:Int)) (Option.bind (Hu (((a0.getD a.toNat default).toNat:Int) / (16:Int))) (fun d=>AY (0≤a∧a<(a0.length:Int)) (AY (0≤((a0.getD a.toNat default).toNat:Int)∧((a0.getD a.toNat default).toNat:Int)≤9223372036854775807∧0<(16:Int)) (Option.bind (Hu (((a0.getD a.toNat default).toNat:Int) % (16:Int))) (fun e=>AY (Go.E.JE 1 (b.length+([(92:UInt8),d,e]).length)) (AY (BJ (a+(1:Int))) (some (Sum.inl ((b++[(92:UInt8),d,e]),(a+(1:Int))))))))))))
def Ld(a:Aas):Option (Aas):=
 AY (Go.E.JE 1 (a.length+([(39:UInt8)]).length)) (some ((a++[(39:UInt8)])))
def FO(a0:Aas):Aas×Int→Option ((Aas×Int) ⊕ (Aas)):=fun⟨b,a⟩=>
 if a<(a0.length:Int) then AY (0≤a∧a<(a0.length:Int)) (if(32:Int)≤((a0.getD a.toNat default).toNat:Int)∧((a0.getD a.toNat default).toNat:Int)≤(126:Int) then AY (0≤a∧a<(a0.length:Int)) (if((a0.getD a.toNat default).toNat:Int)=39 then(GG a0 b a) false else AY (0≤a∧a<(a0.length:Int)) ((GG a0 b a) (!decide (((a0.getD a.toNat default).toNat:Int)=92)))) else(GG a0 b a) false) else Option.map Sum.inr (Ld b)
def N0(a0:Aas)(s:Aas×Int):Option (Aas):=Go.L.run (FO a0) s
def Kj(a0:Aas):Option (Aas):=
 (N0 a0) ([(39:UInt8)],(0:Int))
theorem N1(w:World)(H:PH)(hH:Le H (hp w)){a0:Aas}{x:Value}(k:AI .byte H x (a0)){r:Aas}(h:Kj a0=some r):
  Ok Tryz.prog 41 [x] w (fun v w'=>Ext w w'∧v=(Aar r)):=by
 refine A5 (n:=60) [(0,x)] func41 rfl rfl rfl rfl rfl ?_;have hL:=AR.start w;refine AD 1 rfl<|Al<|JJ (r:=.byte) (l:=[(39:UInt8)]) rfl (fun _=>Ie _ _) rfl (show 1≤9223372036854775807 by decide) hH hL (.c1 rfl .nil) fun v1 w1 bx bz ce b0=>AB 1 rfl<|Bm (σ:=Aas×Value×(List Value)) (fun⟨z,aa,p⟩=>[(3,aa)]) (fun⟨z,aa,p⟩ wr=>DM w [.row (aa) 5 1 (z).length (p)] wr fun Oz=>AM .byte (gz H w wr Oz) (z) (p)∧Ld z=some r) ?_ ?_
 ·refine AD 1 rfl<|A4 ?_;obtain⟨ab,h⟩:=Bb h;refine Bu (σ:=Aas×Int×Value×(List Value)×Nat) (fun⟨c,a,g,f,n⟩=>[(0,x),(3,g),(4,No a)]) (fun⟨c,a,g,f,n⟩ wr=>DM w [.row (g) 5 1 (c).length (f)] wr fun Oz=>AM .byte (gz H w wr Oz) (c) (f)∧FM (FO a0) n (c,a)=some r) (fun⟨c,a,g,f,n⟩=>n) ([(39:UInt8)],(0:Int),v1,bx,ab) (.cons rfl (.cons rfl (.cons rfl (Sub.nil _)))) ⟨bz,b0,h⟩ ?_;rintro⟨c,a,g,f,nn148⟩ b4 ⟨t,b,h⟩;obtain⟨ab,bt,rfl,h,ac⟩:=Ba h;refine A8<|Bl 2 rfl<|Af (Bn rfl AaQ k) rfl<|AB 1 rfl<|Bg rfl (fun ad=>?_) (fun ad=>?_)
  ·have h:=A1 ad h;refine Av<|Ao<|A8<|A4<|Bm (σ:=Bool) (fun j=>[(0,x),(3,g),(4,No a),(31,.bool j)]) (fun j wr=>DM w [.row (g) 5 1 (c).length (f)] wr fun Oz=>AM .byte (gz H w wr Oz) (c) (f)∧(GG a0 c a) j=some bt) ?_ ?_
   ·refine Aq<|Ar 2 rfl ?_;obtain⟨al,h⟩:=Ac h;refine Be rfl rfl AaQ Lj k a.toNat (Int.toNat_of_nonneg al.1).symm (AZ al) rfl ?_;rintro cf _ rfl a3;refine Af (Bh rfl AaS rfl a3 (hH.trans t.arg)) rfl<|Af (ES AaS Aau rfl (Ht _)) rfl<|Ax rfl rfl t (Wk _ _ (As hH t)) ?_;rintro _ cg rfl b5 o y;refine Ar 1 rfl<|AQ (s:=18) rfl (fun d=>?_) (fun d=>?_)
    ·have h:=A1 (of_decide_eq_true d) h;refine Aa rfl rfl d<|Af (Ae rfl) rfl<|Aa rfl rfl d<|Af (Ae rfl) rfl<|Aa rfl rfl d ?_;obtain⟨am,h⟩:=Ac h;refine Be rfl rfl AaQ Lj k a.toNat (Int.toNat_of_nonneg am.1).symm (AZ am) rfl ?_;rintro ch _ rfl a4;refine Aa rfl rfl d<|Af (Bh rfl AaS rfl a4 (hH.trans o.arg)) rfl<|Aa rfl rfl d<|Af (Ae rfl) rfl<|Af (A3 rfl d rfl) rfl<|Ar 1 rfl<|AQ (s:=25) rfl (fun e=>?_) (fun e=>?_)
     ·have h:=A2 (CT e) h;refine Aa rfl rfl e<|Af (Ae rfl) rfl<|Aa rfl rfl e<|Af (Ae rfl) rfl<|Aa rfl rfl e ?_;obtain⟨an,h⟩:=Ac h;refine Be rfl rfl AaQ Lj k a.toNat (Int.toNat_of_nonneg an.1).symm (AZ an) rfl ?_;rintro ci _ rfl a5;refine Aa rfl rfl e<|Af (Bh rfl AaS rfl a5 (hH.trans o.arg)) rfl<|Aa rfl rfl e<|Af (Ae rfl) rfl<|Af (A3 rfl e rfl) rfl<|AL ?_;have b:=b.mono (Ab hH y);refine A9 (!decide (((a0.getD a.toNat default).toNat:Int)=92)) (.cons rfl (.cons rfl (.cons rfl (.cons rfl (Sub.nil _))))) ⟨o,b,h⟩
     have h:=A1 (CU e) h
     iterate 5 refine Aj rfl rfl e rfl ?_
     refine Af (A7 rfl e rfl) rfl<|AL ?_;have b:=b.mono (Ab hH y);refine A9 false (.cons rfl (.cons rfl (.cons rfl (.cons rfl (Sub.nil _))))) ⟨o,b,h⟩
    have h:=A2 (of_decide_eq_false d) h
    iterate 5 refine Aj rfl rfl d rfl ?_
    refine Af (A7 rfl d rfl) rfl<|Ar 1 rfl ?_
    iterate 5 refine Aj rfl rfl rfl rfl ?_
    refine Af (A7 rfl rfl rfl) rfl<|AL ?_;have b:=b.mono (Ab hH y);refine A9 false (.cons rfl (.cons rfl (.cons rfl (.cons rfl (Sub.nil _))))) ⟨o,b,h⟩
   rintro j b6 ⟨u,b,h⟩;refine By rfl (fun ae=>?_) (fun ae=>?_)
   ·have h:=Bv ae h;refine Aq<|Ar 3 rfl ?_;obtain⟨ao,h⟩:=Ac h;refine Be rfl rfl AaQ Lj k a.toNat (Int.toNat_of_nonneg ao.1).symm (AZ ao) rfl ?_;rintro cj _ rfl a6;refine Af (Bh rfl AaS rfl a6 (hH.trans u.arg)) rfl<|Br (r:=.byte) (l:=[a0.getD a.toNat default]) rfl (fun _=>Ie _ _) rfl (show 1≤9223372036854775807 by decide) hH u (.c1 rfl .nil) ?_;intro ck cl b7 a7 ay a8;obtain⟨a9,h⟩:=Ac h;have b:=b.mono (Ab hH ay);refine Bo (r:=.byte) (l:=c) (m:=[a0.getD a.toNat default]) 0 rfl rfl AaQ Lj rfl (by decide) rfl hH a7 rfl b a8 a9 fun bu cm ba bb b1 bc=>Ar 1 rfl<|AL<|AA<|Ao<|Aq<|Ar 1 rfl ?_;obtain⟨bd,h⟩:=Ac h;refine Af (AK rfl rfl rfl bd) rfl<|Ar 1 rfl<|AL ?_;have h:=BF.again h ac;refine AO ((c++[a0.getD a.toNat default]),(a+(1:Int)),bu,ba,ab) (.cons rfl (.cons rfl (.cons rfl (Sub.nil _)))) ⟨bb,bc,h⟩ (Nat.lt_succ_self _)
   have h:=Bw ae h;refine MY (.q 0 (.q 1 (.q 2 (.q 3 (.q 4 (.q 5 (.q 6 (.q 7 (.q 8 (.q 9 (.q 10 (.q 11 (.q 12 (.q 13 (.q 14 (.h 15 (.tail 16))))))))))))))))) mixed (by kernel_rfl) (fun cn ap=>?_);have af:=u.call ap;have az:=AX u ap;refine Ds 3 rfl ?_;obtain⟨aq,h⟩:=Ac h;refine H7 rfl rfl rfl AaQ Lj k a.toNat (Int.toNat_of_nonneg aq.1).symm (AZ aq) rfl ?_;rintro co _ rfl be;refine BE (Bh rfl AaS rfl be (hH.trans af.arg)) rfl rfl<|BE (ES AaS Aau rfl (Ht _)) rfl rfl ?_;obtain⟨bf,h⟩:=Ac h;refine BE (Aay rfl rfl bf) rfl rfl ?_;obtain⟨aj,bg,h⟩:=Go.L.bind_some h;refine ER rfl rfl rfl (fun cp b8=>LV _ _ (Le.refl _) bg)<|Ds 2 rfl ?_;obtain⟨ar,h⟩:=Ac h;refine H7 rfl rfl rfl AaQ Lj k a.toNat (Int.toNat_of_nonneg ar.1).symm (AZ ar) rfl ?_;rintro cq _ rfl bh;refine BE (Bh rfl AaS rfl bh (hH.trans af.arg)) rfl rfl<|BE (ES AaS Aau rfl (Ht _)) rfl rfl ?_;obtain⟨au,h⟩:=Ac h;refine BE (Aaz rfl rfl ⟨au.1,au.2.2⟩) rfl rfl ?_;obtain⟨ak,bi,h⟩:=Go.L.bind_some h;refine ER rfl rfl rfl (fun cr b9=>LV _ _ (Le.refl _) bi) ?_
   refine Mk (r:=.byte) (l:=[(92:UInt8),aj,ak]) rfl rfl (fun _=>SO _ _ _ _) rfl (show 3≤9223372036854775807 by decide) hH af (.c1 rfl (.c1 rfl (.c1 rfl .nil))) fun cs ct ca av a1 ag=>BW (fun cu aw=>?_);have bj:=av.call aw;have ai:=AX av aw;obtain⟨bk,h⟩:=Ac h;have b:=b.mono (Ab hH (az.trans (a1.trans ai)));have ag:=ag.mono (Ab hH ai);refine Bo (r:=.byte) (l:=c) (m:=[(92:UInt8),aj,ak]) 0 rfl rfl AaQ Lj rfl (by decide) rfl hH bj rfl b ag bk fun bv cv bl bm b2 bn=>Ar 1 rfl<|AL<|AA<|Ao<|Aq<|Ar 1 rfl ?_;obtain⟨bo,h⟩:=Ac h;refine Af (AK rfl rfl rfl bo) rfl<|Ar 1 rfl<|AL ?_;have h:=BF.again h ac;refine AO ((c++[(92:UInt8),aj,ak]),(a+(1:Int)),bv,bl,ab) (.cons rfl (.cons rfl (.cons rfl (Sub.nil _)))) ⟨bm,bn,h⟩ (Nat.lt_succ_self _)
  have h:=A2 ad h;refine Bq<|AH<|A6 ?_;have h:=BF.out h ac;refine Bf<|A9 (c,g,f) (.cons rfl (Sub.nil _)) ⟨t,b,h⟩
 rintro⟨z,aa,p⟩ cw ⟨bw,ah,h⟩;refine Bl 1 rfl<|Br (r:=.byte) (l:=[(39:UInt8)]) rfl (fun _=>Ie _ _) rfl (show 1≤9223372036854775807 by decide) hH bw (.c1 rfl .nil) ?_;intro cx cy cb bp a2 bq;obtain⟨br,h⟩:=Ac h;have ah:=ah.mono (Ab hH a2);refine Bo (r:=.byte) (l:=z) (m:=[(39:UInt8)]) 0 rfl rfl AaQ Lj rfl (by decide) rfl hH bp rfl ah bq br fun cz c0 cc ax b3 bs=>Af (M9 rfl AaQ AaS AaG (ax.S8 hH (i:=0) rfl bs) (Le.refl _)) rfl<|AB 1 rfl<|Az ?_;obtain rfl:=Option.some.inj h;refine An rfl rfl ?_;exact⟨ax.ext,rfl⟩
def D9:Option (Bool):=
 some (true)
def Cw(a0:Go.L.Qv)(a1:Go.L.Qv)(self:Go.L.Qv→Go.L.Qv→Option (Bool)):Int→Option ((Int) ⊕ (Bool)):=fun a=>
 if a<(a0.f.2.2.2.2.2.2.length:Int) then AY (0≤a∧a<(a0.f.2.2.2.2.2.2.length:Int)) (AY (0≤a∧a<(a1.f.2.2.2.2.2.2.length:Int)) (Option.bind (self (a0.f.2.2.2.2.2.2.getD a.toNat default) (a1.f.2.2.2.2.2.2.getD a.toNat default)) (fun b=>if !b then Option.map Sum.inr (some (false)) else AY (BJ (a+(1:Int))) (some (Sum.inl (a+(1:Int))))))) else Option.map Sum.inr (D9)
def Hd(a0:Go.L.Qv)(a1:Go.L.Qv)(self:Go.L.Qv→Go.L.Qv→Option (Bool))(s:Int):Option (Bool):=Go.L.run (Cw a0 a1 self) s
def Fh(a0:Go.L.Qv)(a1:Go.L.Qv)(self:Go.L.Qv→Go.L.Qv→Option (Bool)):Option (Bool):=
 (Hd a0 a1 self) (0:Int)
def CM(self:Go.L.Qv→Go.L.Qv→Option (Bool))(a0:Go.L.Qv)(a1:Go.L.Qv):Option (Bool):=
 if((((!decide (a0.f.1=a1.f.1))||(!decide (a0.f.2.2.1=a1.f.2.2.1)))||(!decide (a0.f.2.2.2.2.1=a1.f.2.2.2.2.1)))||(!decide (a0.f.2.2.2.2.2.1=a1.f.2.2.2.2.2.1))) then some (false) else Option.bind (G6 a0.f.2.2.2.1 a1.f.2.2.2.1) (fun a=>if !a then some (false) else Option.bind (JL a0.f.2.1 a1.f.2.1) (fun b=>if((!b)||(!decide ((a0.f.2.2.2.2.2.2.length:Int)=(a1.f.2.2.2.2.2.2.length:Int)))) then some (false) else(Fh a0 a1 self)))
def DX:Nat→Go.L.Qv→Go.L.Qv→Option (Bool)
 | 0=>fun _ _=>none
 | n+1=>CM (DX n)
def CZ:Go.L.Qv→Go.L.Qv→Option (Bool):=DX 1000
theorem M1(self:Go.L.Qv→Go.L.Qv→Option (Bool))(hself:∀ (w:World) (H:PH) (hH:Le H (hp w)) {a0:Go.L.Qv} {a1:Go.L.Qv} {l:Value} {m:Value} {o:Value} {p:Value} {u:Value} {x:Value} (am:AI .st H l (a0.f.2.1)) (an:AI .byte H m (a0.f.2.2.2.1)) (aa:AI .AV H o (a0.f.2.2.2.2.2.2)) (ao:AI .st H p (a1.f.2.1)) (ap:AI .byte H u (a1.f.2.2.2.1)) (ag:AI .AV H x (a1.f.2.2.2.2.2.2)) {r:Bool} (h:self a0 a1=some r),Ok Tryz.prog 17 [.agg #[No a0.f.1,l,Aar a0.f.2.2.1,m,No a0.f.2.2.2.2.1,No a0.f.2.2.2.2.2.1,o],.agg #[No a1.f.1,p,Aar a1.f.2.2.1,u,No a1.f.2.2.2.2.1,No a1.f.2.2.2.2.2.1,x]] w (fun v w'=>Ext w w'∧v=.bool r))(w:World)(H:PH)(hH:Le H (hp w)){a0:Go.L.Qv}{a1:Go.L.Qv}{l:Value}{m:Value}{o:Value}{p:Value}{u:Value}{x:Value}(am:AI .st H l (a0.f.2.1))(an:AI .byte H m (a0.f.2.2.2.1))(aa:AI .AV H o (a0.f.2.2.2.2.2.2))(ao:AI .st H p (a1.f.2.1))(ap:AI .byte H u (a1.f.2.2.2.1))(ag:AI .AV H x (a1.f.2.2.2.2.2.2)){r:Bool}(h:CM self a0 a1=some r):
  Ok Tryz.prog 17 [.agg #[No a0.f.1,l,Aar a0.f.2.2.1,m,No a0.f.2.2.2.2.1,No a0.f.2.2.2.2.2.1,o],.agg #[No a1.f.1,p,Aar a1.f.2.2.1,u,No a1.f.2.2.2.2.1,No a1.f.2.2.2.2.2.1,x]] w (fun v w'=>Ext w w'∧v=.bool r):=by
 refine A5 (n:=76) [(0,.agg #[No a0.f.1,l,Aar a0.f.2.2.1,m,No a0.f.2.2.2.2.1,No a0.f.2.2.2.2.2.1,o]),(1,.agg #[No a1.f.1,p,Aar a1.f.2.2.1,u,No a1.f.2.2.2.2.1,No a1.f.2.2.2.2.2.1,x])] func17 rfl rfl rfl rfl rfl ?_;have hL:=AR.start w;refine Al<|Cv (t:=26) rfl rfl rfl hL fun w1 b1 bd bi _=>Cv (t:=26) rfl rfl rfl bd fun w2 b2 k bj _=>AB 1 rfl<|Bm (σ:=Unit) (fun(_:Unit)=>[(2,(Aam b1)),(3,(Aam b2))]) (fun(_:Unit) wr=>AR w [.box b2 [No a1.f.1,p,Aar a1.f.2.2.1,u,No a1.f.2.2.2.2.1,No a1.f.2.2.2.2.2.1,x] 26,.box b1 [No a0.f.1,l,Aar a0.f.2.2.1,m,No a0.f.2.2.2.2.1,No a0.f.2.2.2.2.2.1,o] 26] wr∧(Fh a0 a1 self)=some r) ?_ ?_
 ·refine Al<|Af (Ag rfl AaY rfl BG (by decide)) rfl<|Af (Ah 1 rfl Aau rfl k rfl rfl) rfl<|Af (Ag rfl AaY rfl BG (by decide)) rfl<|Af (Ah 0 rfl Aau rfl k rfl rfl) rfl<|Ar 2 rfl<|G5 6 17 (.bool ((!decide (a0.f.1=a1.f.1))||(!decide (a0.f.2.2.1=a1.f.2.2.1)))) (fun au=>?_) ?_
  ·refine AQ (s:=11) rfl (fun e=>?_) (fun e=>?_)
   ·iterate 5 refine Aj rfl rfl e rfl ?_
    refine Af (A3 rfl e rfl) rfl<|au.to 5 (O0 e) rfl rfl
   refine Aa rfl rfl e<|Af (Ag rfl AaY rfl Fo (by decide)) rfl<|Aa rfl rfl e<|Af (Ah 1 rfl AaG rfl k rfl rfl) rfl<|Aa rfl rfl e<|Af (Ag rfl AaY rfl Fo (by decide)) rfl<|Aa rfl rfl e<|Af (Ah 0 rfl AaG rfl k rfl rfl) rfl<|Aa rfl rfl e<|Af (MB rfl rfl) rfl<|Af (A7 rfl e rfl) rfl<|au.to 5 (O1 e) rfl rfl
  refine Ar 1 rfl<|G5 6 24 (.bool (((!decide (a0.f.1=a1.f.1))||(!decide (a0.f.2.2.1=a1.f.2.2.1)))||(!decide (a0.f.2.2.2.2.1=a1.f.2.2.2.2.1)))) (fun av=>?_) ?_
  ·refine AQ (s:=18) rfl (fun g=>?_) (fun g=>?_)
   ·iterate 5 refine Aj rfl rfl g rfl ?_
    refine Af (A3 rfl g rfl) rfl<|av.to 5 (O0 g) rfl rfl
   refine Aa rfl rfl g<|Af (Ag rfl AaY rfl BG (by decide)) rfl<|Aa rfl rfl g<|Af (Ah 1 rfl Aau rfl k rfl rfl) rfl<|Aa rfl rfl g<|Af (Ag rfl AaY rfl BG (by decide)) rfl<|Aa rfl rfl g<|Af (Ah 0 rfl Aau rfl k rfl rfl) rfl<|Aa rfl rfl g<|Af (Ae rfl) rfl<|Af (A7 rfl g rfl) rfl<|av.to 5 (O1 g) rfl rfl
  refine Ar 1 rfl<|G5 6 31 (.bool ((((!decide (a0.f.1=a1.f.1))||(!decide (a0.f.2.2.1=a1.f.2.2.1)))||(!decide (a0.f.2.2.2.2.1=a1.f.2.2.2.2.1)))||(!decide (a0.f.2.2.2.2.2.1=a1.f.2.2.2.2.2.1)))) (fun aw=>?_) ?_
  ·refine AQ (s:=25) rfl (fun i=>?_) (fun i=>?_)
   ·iterate 5 refine Aj rfl rfl i rfl ?_
    refine Af (A3 rfl i rfl) rfl<|aw.to 5 (O0 i) rfl rfl
   refine Aa rfl rfl i<|Af (Ag rfl AaY rfl BG (by decide)) rfl<|Aa rfl rfl i<|Af (Ah 1 rfl Aau rfl k rfl rfl) rfl<|Aa rfl rfl i<|Af (Ag rfl AaY rfl BG (by decide)) rfl<|Aa rfl rfl i<|Af (Ah 0 rfl Aau rfl k rfl rfl) rfl<|Aa rfl rfl i<|Af (Ae rfl) rfl<|Af (A7 rfl i rfl) rfl<|aw.to 5 (O1 i) rfl rfl
  refine Ar 1 rfl<|AQ (s:=32) rfl (fun c=>?_) (fun c=>?_)
  ·have h:=Bv c h
   iterate 6 refine Aj rfl rfl c rfl ?_
   refine Af (A3 rfl c rfl) rfl<|Ar 1 rfl ?_
   iterate 6 refine Aj rfl rfl rfl rfl ?_
   refine Af (A3 rfl rfl rfl) rfl<|Ar 1 rfl ?_
   iterate 7 refine Aj rfl rfl rfl rfl ?_
   refine Af (A3 rfl rfl rfl) rfl<|Ad<|Ce rfl<|AD 1 rfl<|Az<|Bs ?_;obtain rfl:=Option.some.inj h;refine An rfl rfl ?_;exact⟨k.ext,rfl⟩
  have h:=Bw c h;refine Aa rfl rfl c<|Af (Ag rfl AaY rfl Fs (by decide)) rfl<|Aa rfl rfl c<|Af (Ah 1 rfl AaQ rfl k rfl rfl) rfl<|Aa rfl rfl c<|Af (Ag rfl AaY rfl Fs (by decide)) rfl<|Aa rfl rfl c<|Af (Ah 0 rfl AaQ rfl k rfl rfl) rfl<|Aa rfl rfl c ?_;obtain⟨bt,a8,h⟩:=Go.L.bind_some h;refine Ax rfl rfl k (Lt _ _ (As hH k) (an.mono (Ai hH)) (ap.mono (Ai hH)) a8) ?_;rintro _ bu rfl bk z bf;refine Aa rfl rfl c<|Af (Ae rfl) rfl<|Af (A7 rfl c rfl) rfl<|Ar 1 rfl<|AQ (s:=40) rfl (fun d=>?_) (fun d=>?_)
  ·have h:=Bv d h
   iterate 6 refine Aj rfl rfl d rfl ?_
   refine Af (A3 rfl d rfl) rfl<|Ar 1 rfl ?_
   iterate 7 refine Aj rfl rfl rfl rfl ?_
   refine Af (A3 rfl rfl rfl) rfl<|Ad<|Ce rfl<|AD 1 rfl<|Az<|Bs ?_;obtain rfl:=Option.some.inj h;refine An rfl rfl ?_;exact⟨z.ext,rfl⟩
  have h:=Bw d h;refine Aa rfl rfl d<|Af (Ag rfl AaY rfl Jn (by decide)) rfl<|Aa rfl rfl d<|Af (Ah 1 rfl AaT rfl z rfl rfl) rfl<|Aa rfl rfl d<|Af (Ag rfl AaY rfl Jn (by decide)) rfl<|Aa rfl rfl d<|Af (Ah 0 rfl AaT rfl z rfl rfl) rfl<|Aa rfl rfl d ?_;obtain⟨be,a9,h⟩:=Go.L.bind_some h;refine Ax rfl rfl z (RI _ _ (As hH z) (am.mono (Ai hH)) (ao.mono (Ai hH)) a9) ?_;rintro _ bv rfl bl ab bg;refine Aa rfl rfl d<|Af (Ae rfl) rfl<|Af (A7 rfl d rfl) rfl<|Ar 1 rfl<|G5 8 56 (.bool ((!be)||(!decide ((a0.f.2.2.2.2.2.2.length:Int)=(a1.f.2.2.2.2.2.2.length:Int))))) (fun ax=>?_) ?_
  ·refine AQ (s:=48) rfl (fun b=>?_) (fun b=>?_)
   ·iterate 7 refine Aj rfl rfl b rfl ?_
    refine Af (A3 rfl b rfl) rfl<|ax.to 7 (O0 b) rfl rfl
   refine Aa rfl rfl b<|Af (Ag rfl AaY rfl DS (by decide)) rfl<|Aa rfl rfl b<|Af (Ah 1 rfl Abx rfl ab rfl rfl) rfl<|Aa rfl rfl b<|Af (Bn rfl Abx aa) rfl<|Aa rfl rfl b<|Af (Ag rfl AaY rfl DS (by decide)) rfl<|Aa rfl rfl b<|Af (Ah 0 rfl Abx rfl ab rfl rfl) rfl<|Aa rfl rfl b<|Af (Bn rfl Abx ag) rfl ?_;refine Aa rfl rfl b<|Af (Ae rfl) rfl<|Af (A7 rfl b rfl) rfl<|ax.to 7 (O1 b) rfl rfl
  refine Ad<|By rfl (fun ah=>?_) (fun ah=>?_)
  ·have h:=Bv ah h;refine AD 1 rfl<|Az<|Bs ?_;obtain rfl:=Option.some.inj h;refine An rfl rfl ?_;exact⟨ab.ext,rfl⟩
  have h:=Bw ah h;refine Av<|A9 () (.cons rfl (.cons rfl (Sub.nil _))) ⟨ab,h⟩
 rintro _ bm ⟨ba,h⟩;refine Bm (σ:=Unit) (fun(_:Unit)=>[]) (fun(_:Unit) wr=>AR w [.box b2 [No a1.f.1,p,Aar a1.f.2.2.1,u,No a1.f.2.2.2.2.1,No a1.f.2.2.2.2.2.1,x] 26,.box b1 [No a0.f.1,l,Aar a0.f.2.2.1,m,No a0.f.2.2.2.2.1,No a0.f.2.2.2.2.2.1,o] 26] wr∧D9=some r) ?_ ?_
 ·refine AD 1 rfl<|A4 ?_;obtain⟨ai,h⟩:=Bb h;refine Bu (σ:=Int×Nat) (fun⟨j,n⟩=>[(2,(Aam b1)),(3,(Aam b2)),(5,No j)]) (fun⟨j,n⟩ wr=>AR w [.box b2 [No a1.f.1,p,Aar a1.f.2.2.1,u,No a1.f.2.2.2.2.1,No a1.f.2.2.2.2.2.1,x] 26,.box b1 [No a0.f.1,l,Aar a0.f.2.2.1,m,No a0.f.2.2.2.2.1,No a0.f.2.2.2.2.2.1,o] 26] wr∧FM (Cw a0 a1 self) n j=some r) (fun⟨j,n⟩=>n) ((0:Int),ai) (.cons rfl (.cons rfl (.cons rfl (Sub.nil _)))) ⟨ba,h⟩ ?_;rintro⟨j,nn100⟩ bh ⟨ac,h⟩;obtain⟨ai,bn,rfl,h,ad⟩:=Ba h;refine A8<|Bl 1 rfl<|Af (Ag rfl AaY rfl DS (by decide)) rfl<|Af (Ah 1 rfl Abx rfl ac rfl rfl) rfl<|Af (Bn rfl Abx aa) rfl<|AB 1 rfl<|Bg rfl (fun ae=>?_) (fun ae=>?_)
  ·have h:=A1 ae h;refine Av<|Ao<|A8<|A4<|EI (.q 0 (.q 1 (.q 2 (.q 3 (.q 4 (.q 5 (.q 6 (.q 7 (.q 8 (.q 9 (.q 10 (.q 11 (.tail 12))))))))))))) mixed (by kernel_rfl) (fun bb a2=>?_);have a:=ac.call a2;refine BE (Ag rfl AaY rfl DS (by decide)) rfl rfl<|BE (Ah 1 rfl Abx rfl a rfl rfl) rfl rfl<|Ds 1 rfl ?_;obtain⟨aj,h⟩:=Ac h;refine H7 rfl rfl rfl Abx Bc aa j.toNat (Int.toNat_of_nonneg aj.1).symm (AZ aj) rfl ?_;rintro bo _ e106t0 a3;obtain⟨_,_,rfl,rfl,⟨_,_,rfl,⟨e106v1,rfl,e106h1⟩,⟨_,_,rfl,rfl,⟨_,_,rfl,⟨e106v3,rfl,e106h3⟩,⟨_,_,rfl,rfl,⟨_,_,rfl,rfl,⟨e106v6,rfl,e106h6⟩⟩⟩⟩⟩⟩⟩:=Go.E.Rp.Cn e106t0;refine BE (Cd rfl AaY rfl Bc a3 (hH.trans a.arg)) rfl rfl<|BE (Ag rfl AaY rfl DS (by decide)) rfl rfl<|BE (Ah 0 rfl Abx rfl a rfl rfl) rfl rfl<|Ds 1 rfl ?_;obtain⟨ak,h⟩:=Ac h;refine H7 rfl rfl rfl Abx Bc ag j.toNat (Int.toNat_of_nonneg ak.1).symm (AZ ak) rfl ?_;rintro bp _ e108t0 a4;obtain⟨_,_,rfl,rfl,⟨_,_,rfl,⟨e108v1,rfl,e108h1⟩,⟨_,_,rfl,rfl,⟨_,_,rfl,⟨e108v3,rfl,e108h3⟩,⟨_,_,rfl,rfl,⟨_,_,rfl,rfl,⟨e108v6,rfl,e108h6⟩⟩⟩⟩⟩⟩⟩:=Go.E.Rp.Cn e108t0
   refine BE (Cd rfl AaY rfl Bc a4 (hH.trans a.arg)) rfl rfl ?_;obtain⟨bq,a5,h⟩:=Go.L.bind_some h;have ay:=(fun(az:World) (y:Ext bb az)=>hself az _ (Le.refl _) ((e106h1.mono (hH.trans a.arg)).mono y.le) ((e106h3.mono (hH.trans a.arg)).mono y.le) ((e106h6.mono (hH.trans a.arg)).mono y.le) ((e108h1.mono (hH.trans a.arg)).mono y.le) ((e108h3.mono (hH.trans a.arg)).mono y.le) ((e108h6.mono (hH.trans a.arg)).mono y.le) a5);refine ER rfl rfl rfl ay<|Ds 1 rfl<|BW (fun br a6=>?_);have al:=a.call a6;refine Ad<|By rfl (fun af=>?_) (fun af=>?_)
   ·have h:=Bv af h;refine AD 1 rfl<|Az<|Ay<|Au<|BB ?_;have h:=BF.out h ad;refine Ay<|Bs ?_;obtain rfl:=Option.some.inj h;refine An rfl rfl ?_;exact⟨al.ext,rfl⟩
   have h:=Bw af h;refine Av<|AA<|Ao<|Aq<|Ar 1 rfl ?_;obtain⟨a7,h⟩:=Ac h;refine Af (AK rfl rfl rfl a7) rfl<|Ar 1 rfl<|AL ?_;have h:=BF.again h ad;refine AO ((j+(1:Int)),ai) (.cons rfl (.cons rfl (.cons rfl (Sub.nil _)))) ⟨al,h⟩ (Nat.lt_succ_self _)
  have h:=A2 ae h;refine Bq<|AH<|A6 ?_;have h:=BF.out h ad;refine Bf<|A9 () (Sub.nil _) ⟨ac,h⟩
 rintro _ bs ⟨bc,h⟩;refine AD 1 rfl<|Az ?_;obtain rfl:=Option.some.inj h;refine An rfl rfl ?_;exact⟨bc.ext,rfl⟩
theorem NX(n:Nat):∀ (w:World) (H:PH) (hH:Le H (hp w)) {a0:Go.L.Qv} {a1:Go.L.Qv} {a:Value} {b:Value} {c:Value} {d:Value} {e:Value} {g:Value} (i:AI .st H a (a0.f.2.1)) (j:AI .byte H b (a0.f.2.2.2.1)) (k:AI .AV H c (a0.f.2.2.2.2.2.2)) (l:AI .st H d (a1.f.2.1)) (m:AI .byte H e (a1.f.2.2.2.1)) (o:AI .AV H g (a1.f.2.2.2.2.2.2)) {r:Bool} (h:DX n a0 a1=some r),Ok Tryz.prog 17 [.agg #[No a0.f.1,a,Aar a0.f.2.2.1,b,No a0.f.2.2.2.2.1,No a0.f.2.2.2.2.2.1,c],.agg #[No a1.f.1,d,Aar a1.f.2.2.1,e,No a1.f.2.2.2.2.1,No a1.f.2.2.2.2.2.1,g]] w (fun v w'=>Ext w w'∧v=.bool r):=by
 induction n with
 | zero=>intros;rename_i h;cases h
 | succ n ih=>exact @M1 (DX n) ih
theorem Gb(w:World)(H:PH)(hH:Le H (hp w)){a0:Go.L.Qv}{a1:Go.L.Qv}{a:Value}{b:Value}{c:Value}{d:Value}{e:Value}{g:Value}(i:AI .st H a (a0.f.2.1))(j:AI .byte H b (a0.f.2.2.2.1))(k:AI .AV H c (a0.f.2.2.2.2.2.2))(l:AI .st H d (a1.f.2.1))(m:AI .byte H e (a1.f.2.2.2.1))(n:AI .AV H g (a1.f.2.2.2.2.2.2)){r:Bool}(h:CZ a0 a1=some r):Ok Tryz.prog 17 [.agg #[No a0.f.1,a,Aar a0.f.2.2.1,b,No a0.f.2.2.2.2.1,No a0.f.2.2.2.2.2.1,c],.agg #[No a1.f.1,d,Aar a1.f.2.2.1,e,No a1.f.2.2.2.2.1,No a1.f.2.2.2.2.2.1,g]] w (fun v w'=>Ext w w'∧v=.bool r):=NX 1000 w H hH i j k l m n h
def Kz(a:Int)(b:List Go.L.Qv):Option (Go.L.Qv):=
 some ((Go.L.Qv.mk a ([]) ([]:Aas) ([]) (0:Int) (0:Int) b))
def Gc(a0:Go.L.Qv)(a1:Bool)(d:Int)(self:Go.L.Qv→Bool→Option (Go.L.Qv)):(List Go.L.Qv)×Int→Option (((List Go.L.Qv)×Int) ⊕ (Go.L.Qv)):=fun⟨b,a⟩=>
 if a<(a0.f.2.2.2.2.2.2.length:Int) then AY (0≤a∧a<(a0.f.2.2.2.2.2.2.length:Int)) (Option.bind (self (a0.f.2.2.2.2.2.2.getD a.toNat default) a1) (fun c=>if c.f.1=d then AY (Go.E.JE 112 (b.length+c.f.2.2.2.2.2.2.length)) (AY (BJ (a+(1:Int))) (some (Sum.inl ((b++c.f.2.2.2.2.2.2),(a+(1:Int)))))) else AY (Go.E.JE 112 (b.length+([c]).length)) (AY (BJ (a+(1:Int))) (some (Sum.inl ((b++[c]),(a+(1:Int)))))))) else Option.map Sum.inr ((Kz d) b)
def NY(a0:Go.L.Qv)(a1:Bool)(a:Int)(self:Go.L.Qv→Bool→Option (Go.L.Qv))(s:(List Go.L.Qv)×Int):Option (Go.L.Qv):=Go.L.run (Gc a0 a1 a self) s
def Gy(a0:Go.L.Qv)(a1:Bool)(self:Go.L.Qv→Bool→Option (Go.L.Qv))(a:Int):Option (Go.L.Qv):=
 (NY a0 a1 a self) (([]:List Go.L.Qv),(0:Int))
def Di(self:Go.L.Qv→Bool→Option (Go.L.Qv))(a0:Go.L.Qv)(a1:Bool):Option (Go.L.Qv):=
 if a0.f.1=(10:Int) then AY (0≤(0:Int)∧(0:Int)<(a0.f.2.2.2.2.2.2.length:Int)) (Option.bind (self (a0.f.2.2.2.2.2.2.getD ((0:Int).toNat) default) (!a1)) (fun a=>some (a))) else(if a0.f.1<(8:Int) then(if a1 then some ((Go.L.Qv.mk (10:Int) ([]) ([]:Aas) ([]) (0:Int) (0:Int) ([a0]))) else some (a0)) else(if a1 then AY (BJ ((17:Int) - a0.f.1)) ((Gy a0 a1 self) ((17:Int) - a0.f.1)) else(Gy a0 a1 self) a0.f.1))
def Hy:Nat→Go.L.Qv→Bool→Option (Go.L.Qv)
 | 0=>fun _ _=>none
 | n+1=>Di (Hy n)
def N2:Go.L.Qv→Bool→Option (Go.L.Qv):=Hy 1000
theorem NZ(self:Go.L.Qv→Bool→Option (Go.L.Qv))(hself:∀ (w:World) (H:PH) (hH:Le H (hp w)) {a0:Go.L.Qv} {a1:Bool} {s:Value} {u:Value} {x:Value} (ak:AI .st H s (a0.f.2.1)) (al:AI .byte H u (a0.f.2.2.2.1)) (ab:AI .AV H x (a0.f.2.2.2.2.2.2)) {r:Go.L.Qv} (h:self a0 a1=some r),Ok Tryz.prog 28 [.agg #[No a0.f.1,s,Aar a0.f.2.2.1,u,No a0.f.2.2.2.2.1,No a0.f.2.2.2.2.2.1,x],.bool a1] w (fun v w'=>Ext w w'∧∃ u0 u1 u2,v=.agg #[No r.f.1,u0,Aar r.f.2.2.1,u1,No r.f.2.2.2.2.1,No r.f.2.2.2.2.2.1,u2]∧AI .st (un H (nw w w')) u0 (r.f.2.1)∧AI .byte (un H (nw w w')) u1 (r.f.2.2.2.1)∧AI .AV (un H (nw w w')) u2 (r.f.2.2.2.2.2.2)))(w:World)(H:PH)(hH:Le H (hp w)){a0:Go.L.Qv}{a1:Bool}{s:Value}{u:Value}{x:Value}(ak:AI .st H s (a0.f.2.1))(al:AI .byte H u (a0.f.2.2.2.1))(ab:AI .AV H x (a0.f.2.2.2.2.2.2)){r:Go.L.Qv}(h:Di self a0 a1=some r):
  Ok Tryz.prog 28 [.agg #[No a0.f.1,s,Aar a0.f.2.2.1,u,No a0.f.2.2.2.2.1,No a0.f.2.2.2.2.2.1,x],.bool a1] w (fun v w'=>Ext w w'∧∃ u0 u1 u2,v=.agg #[No r.f.1,u0,Aar r.f.2.2.1,u1,No r.f.2.2.2.2.1,No r.f.2.2.2.2.2.1,u2]∧AI .st (un H (nw w w')) u0 (r.f.2.1)∧AI .byte (un H (nw w w')) u1 (r.f.2.2.2.1)∧AI .AV (un H (nw w w')) u2 (r.f.2.2.2.2.2.2)):=by
 refine A5 (n:=66) [(0,.agg #[No a0.f.1,s,Aar a0.f.2.2.1,u,No a0.f.2.2.2.2.1,No a0.f.2.2.2.2.2.1,x]),(1,.bool a1)] func28 rfl rfl rfl rfl rfl ?_;have hL:=AR.start w;refine Al<|Cv (t:=26) rfl rfl rfl hL fun w1 b1 cp c6 _=>AJ Bc rfl rfl cp fun w2 b2 e c8 _=>Ad<|A8<|Al<|Af (Ag rfl AaY rfl BG (by decide)) rfl<|Af (Ah 1 rfl Aau rfl e rfl rfl) rfl<|AB 1 rfl<|Bg rfl (fun bj=>?_) (fun bj=>?_)
 ·have h:=A1 bj h;refine Al<|Af (Ag rfl AaY rfl DS (by decide)) rfl<|Af (Ah 1 rfl Abx rfl e rfl rfl) rfl ?_;obtain⟨cg,h⟩:=Ac h;refine Be rfl rfl Abx Bc ab ((0:Int).toNat) (Int.toNat_of_nonneg cg.1).symm (AZ cg) rfl ?_;rintro p5 _ e5t0 cq;obtain⟨_,_,rfl,rfl,⟨_,_,rfl,⟨e5v1,rfl,e5h1⟩,⟨_,_,rfl,rfl,⟨_,_,rfl,⟨e5v3,rfl,e5h3⟩,⟨_,_,rfl,rfl,⟨_,_,rfl,rfl,⟨e5v6,rfl,e5h6⟩⟩⟩⟩⟩⟩⟩:=Go.E.Rp.Cn e5t0;refine Af (Cd rfl AaY rfl Bc cq (hH.trans e.arg)) rfl<|Ar 2 rfl ?_;obtain⟨x7,cr,h⟩:=Go.L.bind_some h;refine Ax rfl rfl e (hself _ _ (As hH e) (e5h1.mono (Ai hH)) (e5h3.mono (Ai hH)) (e5h6.mono (Ai hH)) cr) ?_;rintro _ w8 ⟨c9,da,db,rfl,br,bs,bt⟩ bk cs dc;have ad:=br.mono (Cj hH e bk);have ae:=bs.mono (Cj hH e bk);have af:=bt.mono (Cj hH e bk);refine Ak 0 rfl rfl rfl Bc cs rfl rfl (AF rfl (AF ad.one (AF rfl (AF ae.one (AF rfl (AF rfl (AF af.one BM))))))) fun w9 ch a2=>Ad<|Az<|Au ?_;obtain rfl:=Option.some.inj h;refine B7 rfl (.cell rfl AaY rfl Bc (AS (i:=0) ch rfl)) ?_;have ad:=ad.mono (Ab hH a2);have ae:=ae.mono (Ab hH a2);have af:=af.mono (Ab hH a2)
  exact⟨ch.ext,_,_,_,rfl,(ad.mono (Cu hH)),(ae.mono (Cu hH)),(af.mono (Cu hH))⟩
 have h:=A2 bj h;refine Av<|Ao<|A8<|Al<|Af (Ag rfl AaY rfl BG (by decide)) rfl<|Af (Ah 1 rfl Aau rfl e rfl rfl) rfl<|AB 1 rfl<|Bg rfl (fun a3=>?_) (fun a3=>?_)
 ·have h:=A1 a3 h;refine A8<|AD 1 rfl<|By rfl (fun a4=>?_) (fun a4=>?_)
  ·have h:=Bv a4 h;refine Al<|Af (AE 1 rfl AaY rfl Bc e rfl) rfl<|Br (r:=.AV) (l:=[a0]) rfl (fun _=>Jw _ _ _ _ _ _ _ _) rfl (show 1≤9223372036854775807 by decide) hH e (.c7 (Go.E.Rp.DH ⟨_,_,rfl,rfl,⟨_,_,rfl,⟨_,rfl,(ak.mono (Ai hH))⟩,⟨_,_,rfl,rfl,⟨_,_,rfl,⟨_,rfl,(al.mono (Ai hH))⟩,⟨_,_,rfl,rfl,⟨_,_,rfl,rfl,⟨_,rfl,(ab.mono (Ai hH))⟩⟩⟩⟩⟩⟩⟩) .nil) fun du dv dd ci cz ah=>Af (AW rfl (fun _=>KC _ _ ah.one _)) rfl<|Ak 0 rfl rfl rfl Bc ci rfl rfl (AF rfl (AF rfl (AF rfl (AF rfl (AF rfl (AF rfl (AF ah.one BM))))))) fun dw bl bu=>Ad<|Az ?_
   iterate 2 refine Au ?_
   obtain rfl:=Option.some.inj h;refine B7 rfl (.cell rfl AaY rfl Bc (AS (i:=0) bl rfl)) ?_;have ah:=ah.mono (Ab hH bu);exact⟨bl.ext,_,_,_,rfl,(AI.nil _ _),(AI.nil _ _),(ah.mono (Cu hH))⟩
  have h:=Bw a4 h;refine Av<|Ao<|Al<|Af (AE 1 rfl AaY rfl Bc e rfl) rfl<|Ak 0 rfl rfl rfl Bc e rfl rfl (AF rfl (AF ak.one (AF rfl (AF al.one (AF rfl (AF rfl (AF ab.one BM))))))) fun dx bm c0=>Ad<|Az<|Au ?_;obtain rfl:=Option.some.inj h;refine B7 rfl (.cell rfl AaY rfl Bc (AS (i:=0) bm rfl)) ?_;exact⟨bm.ext,_,_,_,rfl,(ak.mono (GP hH)),(al.mono (GP hH)),(ab.mono (GP hH))⟩
 have h:=A2 a3 h;refine Av<|Ao<|Al<|Af (Ag rfl AaY rfl BG (by decide)) rfl<|Af (Ah 1 rfl Aau rfl e rfl rfl) rfl<|Af (AW rfl (fun _=>Vn _ _)) rfl<|AJ Bc rfl rfl e fun dy aj cj c1 _=>Ak 0 rfl rfl rfl Bc cj rfl rfl (AF rfl (AF rfl (AF rfl (AF rfl (AF rfl (AF rfl (AF rfl BM))))))) fun dz a5 c2=>Ad<|Bm (σ:=Int) (fun ac=>[(1,.bool a1),(2,(Aam b1)),(4,(Aam b2)),(5,(Aam aj))]) (fun ac wr=>AR w [.box aj [No ac,Aak,.string ⟨(([]:Aas)).toArray⟩,Aak,No (0:Int),No (0:Int),Aak] 26,.box b2 [No (0:Int),Aak,.string ⟨(([]:Aas)).toArray⟩,Aak,No (0:Int),No (0:Int),Aak] 26,.box b1 [No a0.f.1,s,Aar a0.f.2.2.1,u,No a0.f.2.2.2.2.1,No a0.f.2.2.2.2.2.1,x] 26] wr∧(Gy a0 a1 self) ac=some r) ?_ ?_
 ·refine AD 1 rfl<|By rfl (fun a6=>?_) (fun a6=>?_)
  ·have h:=Bv a6 h;refine Aq<|Af (Ag rfl AaY rfl BG (by decide)) rfl<|Af (Ah 2 rfl Aau rfl a5 rfl rfl) rfl ?_;obtain⟨ck,h⟩:=Ac h;refine Af (AK rfl rfl rfl ck) rfl<|Af (Ag rfl AaY rfl BG (by decide)) rfl<|Bi 0 rfl rfl rfl BG a5 rfl rfl fun d0 cl c3=>AL<|A9 ((17:Int) - a0.f.1) (.cons rfl (.cons rfl (.cons rfl (.cons rfl (Sub.nil _))))) ⟨cl,h⟩
  have h:=Bw a6 h;refine Av<|A9 a0.f.1 (.cons rfl (.cons rfl (.cons rfl (.cons rfl (Sub.nil _))))) ⟨a5,h⟩
 rintro ac de ⟨cm,h⟩;refine Bm (σ:=(List Go.L.Qv)×Value×(List Value)) (fun⟨ay,am,ag⟩=>[(4,(Aam b2)),(5,(Aam aj))]) (fun⟨ay,am,ag⟩ wr=>DM w [.row (am) 26 7 (ay).length (ag),.box aj [No ac,Aak,.string ⟨(([]:Aas)).toArray⟩,Aak,No (0:Int),No (0:Int),am] 26,.box b2 [No (0:Int),Aak,.string ⟨(([]:Aas)).toArray⟩,Aak,No (0:Int),No (0:Int),Aak] 26,.box b1 [No a0.f.1,s,Aar a0.f.2.2.1,u,No a0.f.2.2.2.2.1,No a0.f.2.2.2.2.2.1,x] 26] wr fun Oz=>AM .AV (gz H w wr Oz) (ay) (ag)∧(Kz ac) ay=some r) ?_ ?_
 ·refine AD 1 rfl<|A4 ?_;obtain⟨bv,ct,bw⟩:=Ck .AV H 26 cm;obtain⟨an,h⟩:=Bb h;refine Bu (σ:=(List Go.L.Qv)×Int×Value×(List Value)×Nat) (fun⟨g,b,y,o,n⟩=>[(1,.bool a1),(2,(Aam b1)),(4,(Aam b2)),(5,(Aam aj)),(6,No b)]) (fun⟨g,b,y,o,n⟩ wr=>DM w [.row (y) 26 7 (g).length (o),.box aj [No ac,Aak,.string ⟨(([]:Aas)).toArray⟩,Aak,No (0:Int),No (0:Int),y] 26,.box b2 [No (0:Int),Aak,.string ⟨(([]:Aas)).toArray⟩,Aak,No (0:Int),No (0:Int),Aak] 26,.box b1 [No a0.f.1,s,Aar a0.f.2.2.1,u,No a0.f.2.2.2.2.1,No a0.f.2.2.2.2.2.1,x] 26] wr fun Oz=>AM .AV (gz H w wr Oz) (g) (o)∧FM (Gc a0 a1 ac self) n (g,b)=some r) (fun⟨g,b,y,o,n⟩=>n) (([]:List Go.L.Qv),(0:Int),Aak,[],an) (.cons rfl (.cons rfl (.cons rfl (.cons rfl (.cons rfl (Sub.nil _)))))) ⟨bv,bw,h⟩ ?_;rintro⟨g,b,y,o,nn121⟩ c4 ⟨c,j,h⟩;obtain⟨an,df,rfl,h,ao⟩:=Ba h;refine A8<|Bl 1 rfl<|Af (Ag rfl AaY rfl DS (by decide)) rfl ?_
  refine Af (Ah 3 rfl Abx rfl c rfl rfl) rfl<|Af (Bn rfl Abx ab) rfl<|AB 1 rfl<|Bg rfl (fun ap=>?_) (fun ap=>?_)
  ·have h:=A1 ap h;refine Av<|Ao<|A8<|A4<|Al<|Af (Ag rfl AaY rfl DS (by decide)) rfl<|Af (Ah 3 rfl Abx rfl c rfl rfl) rfl<|Ar 1 rfl ?_;obtain⟨a8,h⟩:=Ac h;refine Be rfl rfl Abx Bc ab b.toNat (Int.toNat_of_nonneg a8.1).symm (AZ a8) rfl ?_;rintro dg _ e126t0 bx;obtain⟨_,_,rfl,rfl,⟨_,_,rfl,⟨e126v1,rfl,e126h1⟩,⟨_,_,rfl,rfl,⟨_,_,rfl,⟨e126v3,rfl,e126h3⟩,⟨_,_,rfl,rfl,⟨_,_,rfl,rfl,⟨e126v6,rfl,e126h6⟩⟩⟩⟩⟩⟩⟩:=Go.E.Rp.Cn e126t0;refine Af (Cd rfl AaY rfl Bc bx (hH.trans c.arg)) rfl<|Ar 1 rfl ?_;obtain⟨ai,bz,h⟩:=Go.L.bind_some h;refine Ax rfl rfl c (hself _ _ (As hH c) (e126h1.mono (Ai hH)) (e126h3.mono (Ai hH)) (e126h6.mono (Ai hH)) bz) ?_;rintro _ dh ⟨cu,cv,cw,rfl,bc,bd,be⟩ aq b0 az;have z:=bc.mono (Cj hH c aq);have aa:=bd.mono (Cj hH c aq);have a:=be.mono (Cj hH c aq);refine AJ Bc rfl rfl b0 fun di dj b3 p _=>Ak 0 rfl rfl rfl Bc b3 rfl rfl (AF rfl (AF z.one (AF rfl (AF aa.one (AF rfl (AF rfl (AF a.one BM))))))) fun dk d q=>Ad ?_;have k:=d.rG H;refine Al ?_
   refine Af (Ag rfl AaY rfl BG (by decide)) rfl<|Af (Ah 0 rfl Aau rfl d rfl rfl) rfl<|Af (Ag rfl AaY rfl BG (by decide)) rfl<|Af (Ah 2 rfl Aau rfl d rfl rfl) rfl<|AB 1 rfl<|Bg rfl (fun ar=>?_) (fun ar=>?_)
   ·have h:=A1 ar h;refine Aq<|Af (Ag rfl AaY rfl DS (by decide)) rfl<|Af (Ah 2 rfl Abx rfl d rfl rfl) rfl<|Af (Ag rfl AaY rfl DS (by decide)) rfl<|Af (Ah 0 rfl Abx rfl d rfl rfl) rfl ?_;obtain⟨b4,h⟩:=Ac h;have j:=j.mono (Ab hH (az.trans (p.trans q)));have a:=a.mono (Ab hH (p.trans q));refine Bo (r:=.AV) (l:=g) (m:=ai.f.2.2.2.2.2.2) 1 rfl rfl Abx Bc rfl (by decide) rfl hH d rfl (j.mono k) (a.mono k) b4 fun cn dl b5 a9 cx au=>Af (Ag rfl AaY rfl DS (by decide)) rfl<|Bi 2 rfl rfl (row_one (a9.at (i:=1) rfl)) DS a9 rfl rfl fun dm b6 bn=>AL<|AA<|Ao<|Aq<|Ar 1 rfl ?_;obtain⟨b7,h⟩:=Ac h;refine Af (AK rfl rfl rfl b7) rfl<|Ar 1 rfl<|AL ?_;have b8:=b6.AP (i:=0) rfl;have h:=BF.again h ao;have au:=au.mono (Ab hH (bn.trans (Am (i:=0) rfl)));refine AO ((g++ai.f.2.2.2.2.2.2),(b+(1:Int)),cn,b5,an) (.cons rfl (.cons rfl (.cons rfl (.cons rfl (.cons rfl (Sub.nil _)))))) ⟨b8,au,h⟩ (Nat.lt_succ_self _)
   have h:=A2 ar h;refine Aq<|Af (Ag rfl AaY rfl DS (by decide)) rfl<|Af (Ah 2 rfl Abx rfl d rfl rfl) rfl<|Af (AE 0 rfl AaY rfl Bc d rfl) rfl ?_;have z:=z.mono (Ab hH (p.trans q));have aa:=aa.mono (Ab hH (p.trans q));have a:=a.mono (Ab hH (p.trans q));refine Br (r:=.AV) (l:=[ai]) rfl (fun _=>Jw _ _ _ _ _ _ _ _) rfl (show 1≤9223372036854775807 by decide) hH d (.c7 (Go.E.Rp.DH ⟨_,_,rfl,rfl,⟨_,_,rfl,⟨_,rfl,(z.mono k)⟩,⟨_,_,rfl,rfl,⟨_,_,rfl,⟨_,rfl,(aa.mono k)⟩,⟨_,_,rfl,rfl,⟨_,_,rfl,rfl,⟨_,rfl,(a.mono k)⟩⟩⟩⟩⟩⟩⟩) .nil) ?_;intro dn dp c5 b9 bo ca;obtain⟨cb,h⟩:=Ac h;have j:=j.mono (Ab hH (az.trans (p.trans q)));have k:=k.trans (Ab hH bo);refine Bo (r:=.AV) (l:=g) (m:=[ai]) 1 rfl rfl Abx Bc rfl (by decide) rfl hH b9 rfl (j.mono k) ca cb fun co dq cc ba cy av=>Af (Ag rfl AaY rfl DS (by decide)) rfl<|Bi 2 rfl rfl (row_one (ba.at (i:=1) rfl)) DS ba rfl rfl fun dr cd bp=>AL<|AA<|Ao<|Aq<|Ar 1 rfl ?_
   obtain⟨ce,h⟩:=Ac h;refine Af (AK rfl rfl rfl ce) rfl<|Ar 1 rfl<|AL ?_;have cf:=cd.AP (i:=0) rfl;have h:=BF.again h ao;have av:=av.mono (Ab hH (bp.trans (Am (i:=0) rfl)));refine AO ((g++[ai]),(b+(1:Int)),co,cc,an) (.cons rfl (.cons rfl (.cons rfl (.cons rfl (.cons rfl (Sub.nil _)))))) ⟨cf,av,h⟩ (Nat.lt_succ_self _)
  have h:=A2 ap h;refine Bq<|AH<|A6 ?_;have h:=BF.out h ao;refine Bf<|A9 (g,y,o) (.cons rfl (.cons rfl (Sub.nil _))) ⟨c,j,h⟩
 rintro⟨ay,am,ag⟩ ds ⟨a7,aw,h⟩;refine Al<|Af (AE 1 rfl AaY rfl Bc a7 rfl) rfl<|Ak 2 rfl rfl rfl Bc a7 rfl rfl (AF rfl (AF rfl (AF rfl (AF rfl (AF rfl (AF rfl (AF (row_one (a7.at (i:=0) rfl)) BM))))))) fun dt ax bq=>Ad<|Az ?_;obtain rfl:=Option.some.inj h;refine B7 rfl (.cell rfl AaY rfl Bc (AS (i:=2) ax rfl)) ?_;have aw:=aw.mono (Ab hH bq);exact⟨ax.ext,_,_,_,rfl,(AI.nil _ _),(AI.nil _ _),((ax.Gp hH (i:=0) rfl aw).vec hH)⟩
theorem PA(n:Nat):∀ (w:World) (H:PH) (hH:Le H (hp w)) {a0:Go.L.Qv} {a1:Bool} {a:Value} {b:Value} {c:Value} (i:AI .st H a (a0.f.2.1)) (j:AI .byte H b (a0.f.2.2.2.1)) (k:AI .AV H c (a0.f.2.2.2.2.2.2)) {r:Go.L.Qv} (h:Hy n a0 a1=some r),Ok Tryz.prog 28 [.agg #[No a0.f.1,a,Aar a0.f.2.2.1,b,No a0.f.2.2.2.2.1,No a0.f.2.2.2.2.2.1,c],.bool a1] w (fun v w'=>Ext w w'∧∃ d e g,v=.agg #[No r.f.1,d,Aar r.f.2.2.1,e,No r.f.2.2.2.2.1,No r.f.2.2.2.2.2.1,g]∧AI .st (un H (nw w w')) d (r.f.2.1)∧AI .byte (un H (nw w w')) e (r.f.2.2.2.1)∧AI .AV (un H (nw w w')) g (r.f.2.2.2.2.2.2)):=by
 induction n with
 | zero=>intros;rename_i h;cases h
 | succ n ih=>exact @NZ (Hy n) ih
theorem R1(w:World)(H:PH)(hH:Le H (hp w)){a0:Go.L.Qv}{a1:Bool}{a:Value}{b:Value}{c:Value}(d:AI .st H a (a0.f.2.1))(e:AI .byte H b (a0.f.2.2.2.1))(g:AI .AV H c (a0.f.2.2.2.2.2.2)){r:Go.L.Qv}(h:N2 a0 a1=some r):Ok Tryz.prog 28 [.agg #[No a0.f.1,a,Aar a0.f.2.2.1,b,No a0.f.2.2.2.2.1,No a0.f.2.2.2.2.2.1,c],.bool a1] w (fun v w'=>Ext w w'∧∃ i j k,v=.agg #[No r.f.1,i,Aar r.f.2.2.1,j,No r.f.2.2.2.2.1,No r.f.2.2.2.2.2.1,k]∧AI .st (un H (nw w w')) i (r.f.2.1)∧AI .byte (un H (nw w w')) j (r.f.2.2.2.1)∧AI .AV (un H (nw w w')) k (r.f.2.2.2.2.2.2)):=PA 1000 w H hH d e g h
def He(a:Aas):Option (Aas):=
 AY (([(34:UInt8)]).length+a.length≤9223372036854775807) (AY (([(34:UInt8)]++a).length+([(34:UInt8)]).length≤9223372036854775807) (some ((([(34:UInt8)]++a)++[(34:UInt8)]))))
def Cx(a0:Go.L.Qv):Aas×Int→Option ((Aas×Int) ⊕ (Aas)):=fun⟨b,a⟩=>
 if a<(a0.f.2.1.length:Int) then AY (b.length+([32]:Aas).length≤9223372036854775807) (AY (0≤a∧a<(a0.f.2.1.length:Int)) (AY ((b++([32]:Aas)).length+(a0.f.2.1.getD a.toNat default).length≤9223372036854775807) (AY (BJ (a+(1:Int))) (some (Sum.inl (((b++([32]:Aas))++a0.f.2.1.getD a.toNat default),(a+(1:Int)))))))) else Option.map Sum.inr (He b)
def Hf(a0:Go.L.Qv)(s:Aas×Int):Option (Aas):=Go.L.run (Cx a0) s
def Hg(a0:Go.L.Qv)(self2:(List Go.L.Qv)→Aas→Int→Int→Option (Aas)):Option (Aas):=
 Option.bind (self2 a0.f.2.2.2.2.2.2 ([]:Aas) (8:Int) (9:Int)) (fun a=>AY (([33]:Aas).length+a.length≤9223372036854775807) (some ((([33]:Aas)++a))))
def Gz(_self1:Go.L.Qv→Option (Aas))(self2:(List Go.L.Qv)→Aas→Int→Int→Option (Aas))(a0:Go.L.Qv):Option (Aas):=
 if a0.f.1=(1:Int) then AY (0≤(0:Int)∧(0:Int)<(a0.f.2.1.length:Int)) (some (a0.f.2.1.getD ((0:Int).toNat) default)) else(if a0.f.1=(2:Int) then AY (0≤(0:Int)∧(0:Int)<(a0.f.2.1.length:Int)) ((Hf a0) (a0.f.2.1.getD ((0:Int).toNat) default,(1:Int))) else(if a0.f.1=(3:Int) then AY (0≤(0:Int)∧(0:Int)<(a0.f.2.1.length:Int)) (AY ((a0.f.2.1.getD ((0:Int).toNat) default).length+([126]:Aas).length≤9223372036854775807) (Option.bind (I1 a0.f.2.2.2.2.1) (fun a=>AY ((a0.f.2.1.getD ((0:Int).toNat) default++([126]:Aas)).length+a.length≤9223372036854775807) (AY (((a0.f.2.1.getD ((0:Int).toNat) default++([126]:Aas))++a).length+([126]:Aas).length≤9223372036854775807) (AY (0≤(1:Int)∧(1:Int)<(a0.f.2.1.length:Int)) (AY ((((a0.f.2.1.getD ((0:Int).toNat) default++([126]:Aas))++a)++([126]:Aas)).length+(a0.f.2.1.getD ((1:Int).toNat) default).length≤9223372036854775807) (some (((((a0.f.2.1.getD ((0:Int).toNat) default++([126]:Aas))++a)++([126]:Aas))++a0.f.2.1.getD ((1:Int).toNat) default))))))))) else(if a0.f.1=(4:Int) then Option.bind (Kj a0.f.2.2.2.1) (fun e=>some (e)) else(if a0.f.1=(5:Int) then AY (([47]:Aas).length+a0.f.2.2.1.length≤9223372036854775807) (some ((([47]:Aas)++a0.f.2.2.1))) else(if a0.f.1=(6:Int) then AY (([47]:Aas).length+a0.f.2.2.1.length≤9223372036854775807) (AY ((([47]:Aas)++a0.f.2.2.1).length+([61]:Aas).length≤9223372036854775807) (Option.bind (I1 a0.f.2.2.2.2.1) (fun b=>AY (((([47]:Aas)++a0.f.2.2.1)++([61]:Aas)).length+b.length≤9223372036854775807) (AY ((((([47]:Aas)++a0.f.2.2.1)++([61]:Aas))++b).length+([46,46]:Aas).length≤9223372036854775807) (Option.bind (I1 a0.f.2.2.2.2.2.1) (fun c=>AY (((((([47]:Aas)++a0.f.2.2.1)++([61]:Aas))++b)++([46,46]:Aas)).length+c.length≤9223372036854775807) (some ((((((([47]:Aas)++a0.f.2.2.1)++([61]:Aas))++b)++([46,46]:Aas))++c))))))))) else(if a0.f.1=(7:Int) then AY (([47]:Aas).length+a0.f.2.2.1.length≤9223372036854775807) (AY ((([47]:Aas)++a0.f.2.2.1).length+([61]:Aas).length≤9223372036854775807) (Option.bind (Kj a0.f.2.2.2.1) (fun d=>AY (((([47]:Aas)++a0.f.2.2.1)++([61]:Aas)).length+d.length≤9223372036854775807) (some ((((([47]:Aas)++a0.f.2.2.1)++([61]:Aas))++d)))))) else(if a0.f.1=(8:Int) then Option.bind (self2 a0.f.2.2.2.2.2.2 ([38]:Aas) (9:Int) (0:Int)) (fun g=>some (g)) else(if a0.f.1=(9:Int) then Option.bind (self2 a0.f.2.2.2.2.2.2 ([124]:Aas) (0:Int) (0:Int)) (fun h=>some (h)) else(Hg a0 self2)))))))))
theorem M3{self1:Go.L.Qv→Option (Aas)}{self2:(List Go.L.Qv)→Aas→Int→Int→Option (Aas)}(_hself1:∀ (w:World) (H:PH) (hH:Le H (hp w)) {a0:Go.L.Qv} {c:Value} {e:Value} {g:Value} (i:AI .st H c (a0.f.2.1)) (ah:AI .byte H e (a0.f.2.2.2.1)) (s:AI .AV H g (a0.f.2.2.2.2.2.2)) {r:Aas} (h:self1 a0=some r),Ok Tryz.prog 16 [.agg #[No a0.f.1,c,Aar a0.f.2.2.1,e,No a0.f.2.2.2.2.1,No a0.f.2.2.2.2.2.1,g]] w (fun v w'=>Ext w w'∧v=(Aar r)))(hself2:∀ (w:World) (H:PH) (hH:Le H (hp w)) {a0:List Go.L.Qv} {a1:Aas} {a2:Int} {a3:Int} {c:Value} (i:AI .AV H c (a0)) {r:Aas} (h:self2 a0 a1 a2 a3=some r),Ok Tryz.prog 42 [c,Aar a1,No a2,No a3] w (fun v w'=>Ext w w'∧v=(Aar r)))(w:World)(H:PH)(hH:Le H (hp w)){a0:Go.L.Qv}{c:Value}{e:Value}{g:Value}(i:AI .st H c (a0.f.2.1))(ah:AI .byte H e (a0.f.2.2.2.1))(s:AI .AV H g (a0.f.2.2.2.2.2.2)){r:Aas}(h:Gz self1 self2 a0=some r):
  Ok Tryz.prog 16 [.agg #[No a0.f.1,c,Aar a0.f.2.2.1,e,No a0.f.2.2.2.2.1,No a0.f.2.2.2.2.2.1,g]] w (fun v w'=>Ext w w'∧v=(Aar r)):=by
 refine A5 (n:=107) [(0,.agg #[No a0.f.1,c,Aar a0.f.2.2.1,e,No a0.f.2.2.2.2.1,No a0.f.2.2.2.2.2.1,g])] func16 rfl rfl rfl rfl rfl ?_;have hL:=AR.start w;refine Al<|Cv (t:=26) rfl rfl rfl hL fun w1 b1 a cv _=>AB 1 rfl<|Bm (σ:=Unit) (fun(_:Unit)=>[(1,(Aam b1))]) (fun(_:Unit) wr=>AR w [.box b1 [No a0.f.1,c,Aar a0.f.2.2.1,e,No a0.f.2.2.2.2.1,No a0.f.2.2.2.2.2.1,g] 26] wr∧(Hg a0 self2)=some r) ?_ ?_
 ·refine Al<|Af (Ag rfl AaY rfl BG (by decide)) rfl<|Af (Ah 0 rfl Aau rfl a rfl rfl) rfl<|Ad<|A4<|AD 2 rfl<|Bg rfl (fun u=>?_) (fun u=>?_)
  ·have h:=A1 u h;refine Al<|Af (Ag rfl AaY rfl Jn (by decide)) rfl<|Af (Ah 0 rfl AaT rfl a rfl rfl) rfl ?_;obtain⟨aj,h⟩:=Ac h;refine Be rfl rfl AaT Fo i ((0:Int).toNat) (Int.toNat_of_nonneg aj.1).symm (AZ aj) rfl ?_;rintro cw _ rfl au;refine Af (Bh rfl AaG rfl au (hH.trans a.arg)) rfl<|AB 1 rfl<|Az<|Ay<|Bs ?_;obtain rfl:=Option.some.inj h;refine An rfl rfl ?_;exact⟨a.ext,rfl⟩
  have h:=A2 u h;refine AD 2 rfl<|Bg rfl (fun x=>?_) (fun x=>?_)
  ·have h:=A1 x h;refine Al<|Af (Ag rfl AaY rfl Jn (by decide)) rfl<|Af (Ah 0 rfl AaT rfl a rfl rfl) rfl ?_;obtain⟨ak,h⟩:=Ac h;refine Be rfl rfl AaT Fo i ((0:Int).toNat) (Int.toNat_of_nonneg ak.1).symm (AZ ak) rfl ?_;rintro cx _ rfl av;refine Af (Bh rfl AaG rfl av (hH.trans a.arg)) rfl<|AB 1 rfl<|Bm (σ:=Aas) (fun k=>[(3,(Aar k))]) (fun k wr=>AR w [.box b1 [No a0.f.1,c,Aar a0.f.2.2.1,e,No a0.f.2.2.2.2.1,No a0.f.2.2.2.2.2.1,g] 26] wr∧He k=some r) ?_ ?_
   ·refine AD 1 rfl<|A4 ?_;obtain⟨ai,h⟩:=Bb h;refine Bu (σ:=Aas×Int×Nat) (fun⟨d,b,n⟩=>[(1,(Aam b1)),(3,(Aar d)),(4,No b)]) (fun⟨d,b,n⟩ wr=>AR w [.box b1 [No a0.f.1,c,Aar a0.f.2.2.1,e,No a0.f.2.2.2.2.1,No a0.f.2.2.2.2.2.1,g] 26] wr∧FM (Cx a0) n (d,b)=some r) (fun⟨d,b,n⟩=>n) (a0.f.2.1.getD ((0:Int).toNat) default,(1:Int),ai) (.cons rfl (.cons rfl (.cons rfl (Sub.nil _)))) ⟨a,h⟩ ?_;rintro⟨d,b,nn149⟩ cj ⟨m,h⟩;obtain⟨ai,cy,rfl,h,al⟩:=Ba h;refine A8<|Bl 1 rfl<|Af (Ag rfl AaY rfl Jn (by decide)) rfl<|Af (Ah 0 rfl AaT rfl m rfl rfl) rfl<|Af (Bn rfl AaT i) rfl<|AB 1 rfl<|Bg rfl (fun y=>?_) (fun y=>?_)
    ·have h:=A1 y h;refine Av<|Ao<|A8<|A4<|Aq<|Ar 1 rfl ?_;obtain⟨aw,h⟩:=Ac h;refine Af (Dd rfl rfl aw) rfl<|Af (Ag rfl AaY rfl Jn (by decide)) rfl<|Af (Ah 0 rfl AaT rfl m rfl rfl) rfl<|Ar 1 rfl ?_;obtain⟨am,h⟩:=Ac h;refine Be rfl rfl AaT Fo i b.toNat (Int.toNat_of_nonneg am.1).symm (AZ am) rfl ?_;rintro cz _ rfl ax;refine Af (Bh rfl AaG rfl ax (hH.trans m.arg)) rfl ?_;obtain⟨ay,h⟩:=Ac h;refine Af (Dd rfl rfl ay) rfl<|Ar 1 rfl<|AL<|AA<|Ao<|Aq<|Ar 1 rfl ?_;obtain⟨az,h⟩:=Ac h;refine Af (AK rfl rfl rfl az) rfl<|Ar 1 rfl<|AL ?_;have h:=BF.again h al;refine AO (((d++([32]:Aas))++a0.f.2.1.getD b.toNat default),(b+(1:Int)),ai) (.cons rfl (.cons rfl (.cons rfl (Sub.nil _)))) ⟨m,h⟩ (Nat.lt_succ_self _)
    have h:=A2 y h;refine Bq<|AH<|A6 ?_;have h:=BF.out h al;refine Bf<|A9 d (.cons rfl (Sub.nil _)) ⟨m,h⟩
   rintro k ck ⟨a4,h⟩;refine Al<|Br (r:=.byte) (l:=[(34:UInt8)]) rfl (fun _=>Ie _ _) rfl (show 1≤9223372036854775807 by decide) hH a4 (.c1 rfl .nil) fun c0 c2 cl an cd a5=>Af (M9 rfl AaQ AaS AaG a5 (As hH an)) rfl<|Ar 1 rfl ?_;obtain⟨a6,h⟩:=Ac h;refine Af (Dd rfl rfl a6) rfl<|Br (r:=.byte) (l:=[(34:UInt8)]) rfl (fun _=>Ie _ _) rfl (show 1≤9223372036854775807 by decide) hH an (.c1 rfl .nil) fun c3 c4 cm ao ce a7=>Af (M9 rfl AaQ AaS AaG a7 (As hH ao)) rfl ?_;obtain⟨a8,h⟩:=Ac h;refine Af (Dd rfl rfl a8) rfl<|AB 1 rfl<|Az<|Ay<|Bs ?_;obtain rfl:=Option.some.inj h;refine An rfl rfl ?_;exact⟨ao.ext,rfl⟩
  have h:=A2 x h;refine AD 2 rfl<|Bg rfl (fun z=>?_) (fun z=>?_)
  ·have h:=A1 z h;refine EI (.q 0 (.q 1 (.q 2 (.q 3 (.q 4 (.q 5 (.q 6 (.q 7 (.q 8 (.q 9 (.q 10 (.q 11 (.q 12 (.q 13 (.q 14 (.q 15 (.tail 16))))))))))))))))) mixed (by kernel_rfl) (fun c5 a9=>?_);have j:=a.call a9;refine BE (Ag rfl AaY rfl Jn (by decide)) rfl rfl<|BE (Ah 0 rfl AaT rfl j rfl rfl) rfl rfl ?_;obtain⟨ap,h⟩:=Ac h;refine H7 rfl rfl rfl AaT Fo i ((0:Int).toNat) (Int.toNat_of_nonneg ap.1).symm (AZ ap) rfl ?_;rintro c6 _ rfl ba;refine BE (Bh rfl AaG rfl ba (hH.trans j.arg)) rfl rfl ?_;obtain⟨bb,h⟩:=Ac h;refine BE (Dd rfl rfl bb) rfl rfl<|BE (Ag rfl AaY rfl BG (by decide)) rfl rfl<|BE (Ah 0 rfl Aau rfl j rfl rfl) rfl rfl ?_;obtain⟨c7,bc,h⟩:=Go.L.bind_some h;refine ER rfl rfl rfl (fun c8 cn=>Ks _ _ (Le.refl _) bc) ?_;obtain⟨bd,h⟩:=Ac h;refine BE (Dd rfl rfl bd) rfl rfl ?_;obtain⟨be,h⟩:=Ac h;refine BE (Dd rfl rfl be) rfl rfl<|BE (Ag rfl AaY rfl Jn (by decide)) rfl rfl<|BE (Ah 0 rfl AaT rfl j rfl rfl) rfl rfl ?_;obtain⟨aq,h⟩:=Ac h;refine H7 rfl rfl rfl AaT Fo i ((1:Int).toNat) (Int.toNat_of_nonneg aq.1).symm (AZ aq) rfl ?_;rintro c9 _ rfl bf
   refine BE (Bh rfl AaG rfl bf (hH.trans j.arg)) rfl rfl ?_;obtain⟨bg,h⟩:=Ac h;refine BE (Dd rfl rfl bg) rfl rfl<|Ds 1 rfl<|BW (fun da bh=>?_);have bi:=j.call bh;refine Ad<|Az<|Ay<|Bs ?_;obtain rfl:=Option.some.inj h;refine An rfl rfl ?_;exact⟨bi.ext,rfl⟩
  have h:=A2 z h;refine AD 2 rfl<|Bg rfl (fun aa=>?_) (fun aa=>?_)
  ·have h:=A1 aa h;refine Al<|Af (Ag rfl AaY rfl Fs (by decide)) rfl<|Af (Ah 0 rfl AaQ rfl a rfl rfl) rfl ?_;obtain⟨db,bj,h⟩:=Go.L.bind_some h;refine Ax rfl rfl a (N1 _ _ (As hH a) (ah.mono (Ai hH)) bj) ?_;rintro _ dc rfl co bk cf;refine AB 1 rfl<|Az<|Ay<|Bs ?_;obtain rfl:=Option.some.inj h;refine An rfl rfl ?_;exact⟨bk.ext,rfl⟩
  have h:=A2 aa h;refine AD 2 rfl<|Bg rfl (fun ab=>?_) (fun ab=>?_)
  ·have h:=A1 ab h;refine Al<|Af (Ag rfl AaY rfl Fo (by decide)) rfl<|Af (Ah 0 rfl AaG rfl a rfl rfl) rfl ?_;obtain⟨bl,h⟩:=Ac h;refine Af (Dd rfl rfl bl) rfl<|AB 1 rfl<|Az<|Ay<|Bs ?_;obtain rfl:=Option.some.inj h;refine An rfl rfl ?_;exact⟨a.ext,rfl⟩
  have h:=A2 ab h;refine AD 2 rfl<|Bg rfl (fun ac=>?_) (fun ac=>?_)
  ·have h:=A1 ac h;refine EI (.q 0 (.q 1 (.q 2 (.q 3 (.q 4 (.q 5 (.q 6 (.q 7 (.q 8 (.q 9 (.q 10 (.q 11 (.q 12 (.q 13 (.tail 14))))))))))))))) mixed (by kernel_rfl) (fun dd bm=>?_);have o:=a.call bm;refine BE (Ag rfl AaY rfl Fo (by decide)) rfl rfl<|BE (Ah 0 rfl AaG rfl o rfl rfl) rfl rfl ?_;obtain⟨bn,h⟩:=Ac h;refine BE (Dd rfl rfl bn) rfl rfl ?_;obtain⟨bo,h⟩:=Ac h;refine BE (Dd rfl rfl bo) rfl rfl<|BE (Ag rfl AaY rfl BG (by decide)) rfl rfl<|BE (Ah 0 rfl Aau rfl o rfl rfl) rfl rfl ?_;obtain⟨de,bp,h⟩:=Go.L.bind_some h;refine ER rfl rfl rfl (fun df cp=>Ks _ _ (Le.refl _) bp) ?_;obtain⟨bq,h⟩:=Ac h;refine BE (Dd rfl rfl bq) rfl rfl ?_;obtain⟨br,h⟩:=Ac h;refine BE (Dd rfl rfl br) rfl rfl<|BE (Ag rfl AaY rfl BG (by decide)) rfl rfl<|BE (Ah 0 rfl Aau rfl o rfl rfl) rfl rfl ?_;obtain⟨dg,bs,h⟩:=Go.L.bind_some h;refine ER rfl rfl rfl (fun dh cq=>Ks _ _ (Le.refl _) bs) ?_;obtain⟨bt,h⟩:=Ac h;refine BE (Dd rfl rfl bt) rfl rfl<|Ds 1 rfl<|BW (fun di bu=>?_);have bv:=o.call bu;refine Ad<|Az<|Ay<|Bs ?_
   obtain rfl:=Option.some.inj h;refine An rfl rfl ?_;exact⟨bv.ext,rfl⟩
  have h:=A2 ac h;refine AD 2 rfl<|Bg rfl (fun ad=>?_) (fun ad=>?_)
  ·have h:=A1 ad h;refine EI (.q 0 (.q 1 (.q 2 (.q 3 (.q 4 (.q 5 (.q 6 (.q 7 (.q 8 (.tail 9)))))))))) mixed (by kernel_rfl) (fun dj bw=>?_);have p:=a.call bw;refine BE (Ag rfl AaY rfl Fo (by decide)) rfl rfl<|BE (Ah 0 rfl AaG rfl p rfl rfl) rfl rfl ?_;obtain⟨bx,h⟩:=Ac h;refine BE (Dd rfl rfl bx) rfl rfl ?_;obtain⟨bz,h⟩:=Ac h;refine BE (Dd rfl rfl bz) rfl rfl<|BE (Ag rfl AaY rfl Fs (by decide)) rfl rfl<|BE (Ah 0 rfl AaQ rfl p rfl rfl) rfl rfl ?_;obtain⟨dk,b0,h⟩:=Go.L.bind_some h;refine ER rfl rfl rfl (fun dl b2=>N1 _ _ (Le.refl _) ((ah.mono (hH.trans p.arg)).mono b2.le) b0) ?_;obtain⟨b3,h⟩:=Ac h;refine BE (Dd rfl rfl b3) rfl rfl<|Ds 1 rfl<|BW (fun dm b4=>?_);have b5:=p.call b4;refine Ad<|Az<|Ay<|Bs ?_;obtain rfl:=Option.some.inj h;refine An rfl rfl ?_;exact⟨b5.ext,rfl⟩
  have h:=A2 ad h;refine AD 2 rfl<|Bg rfl (fun ae=>?_) (fun ae=>?_)
  ·have h:=A1 ae h;refine Al<|Af (Ag rfl AaY rfl DS (by decide)) rfl<|Af (Ah 0 rfl Abx rfl a rfl rfl) rfl ?_;obtain⟨dn,b6,h⟩:=Go.L.bind_some h;refine Ax rfl rfl a (hself2 _ _ (As hH a) (s.mono (Ai hH)) b6) ?_;rintro _ dp rfl cr b7 cg;refine AB 1 rfl<|Az<|Ay<|Bs ?_;obtain rfl:=Option.some.inj h;refine An rfl rfl ?_;exact⟨b7.ext,rfl⟩
  have h:=A2 ae h;refine AD 2 rfl<|Bg rfl (fun af=>?_) (fun af=>?_)
  ·have h:=A1 af h;refine Al<|Af (Ag rfl AaY rfl DS (by decide)) rfl<|Af (Ah 0 rfl Abx rfl a rfl rfl) rfl ?_;obtain⟨dq,b8,h⟩:=Go.L.bind_some h;refine Ax rfl rfl a (hself2 _ _ (As hH a) (s.mono (Ai hH)) b8) ?_;rintro _ dr rfl cs b9 ch;refine AB 1 rfl<|Az<|Ay<|Bs ?_;obtain rfl:=Option.some.inj h;refine An rfl rfl ?_;exact⟨b9.ext,rfl⟩
  have h:=A2 af h;refine Av<|AA<|A9 () (.cons rfl (Sub.nil _)) ⟨a,h⟩
 rintro _ ct ⟨ag,h⟩;refine Al<|Af (Ag rfl AaY rfl DS (by decide)) rfl<|Af (Ah 0 rfl Abx rfl ag rfl rfl) rfl ?_;obtain⟨ds,ca,h⟩:=Go.L.bind_some h;refine Ax rfl rfl ag (hself2 _ _ (As hH ag) (s.mono (Ai hH)) ca) ?_;rintro _ dt rfl cu cb ci;obtain⟨cc,h⟩:=Ac h;refine Af (Dd rfl rfl cc) rfl<|AB 1 rfl<|Az ?_;obtain rfl:=Option.some.inj h;refine An rfl rfl ?_;exact⟨cb.ext,rfl⟩
def Eu(a0:List Go.L.Qv)(a:Int)(b:Aas)(self1:Go.L.Qv→Option (Aas))(d:Bool):Option ((Aas×Int) ⊕ (Aas)):=
 if d then AY (b.length+([40]:Aas).length≤9223372036854775807) (AY (0≤a∧a<(a0.length:Int)) (Option.bind (self1 (a0.getD a.toNat default)) (fun c=>AY ((b++([40]:Aas)).length+c.length≤9223372036854775807) (AY (((b++([40]:Aas))++c).length+([41]:Aas).length≤9223372036854775807) (AY (BJ (a+(1:Int))) (some (Sum.inl ((((b++([40]:Aas))++c)++([41]:Aas)),(a+(1:Int)))))))))) else AY (0≤a∧a<(a0.length:Int)) (Option.bind (self1 (a0.getD a.toNat default)) (fun e=>AY (b.length+e.length≤9223372036854775807) (AY (BJ (a+(1:Int))) (some (Sum.inl ((b++e),(a+(1:Int))))))))
def Ev(a0:List Go.L.Qv)(a2:Int)(a3:Int)(a:Int)(self1:Go.L.Qv→Option (Aas))(b:Aas):Option ((Aas×Int) ⊕ (Aas)):=
 AY (0≤a∧a<(a0.length:Int)) (if(a0.getD a.toNat default).f.1=a2 then(Eu a0 a b self1) true else AY (0≤a∧a<(a0.length:Int)) ((Eu a0 a b self1) (decide ((a0.getD a.toNat default).f.1=a3))))
def Gd(a:Aas):Option (Aas):=
 some (a)
def BP(a0:List Go.L.Qv)(a1:Aas)(a2:Int)(a3:Int)(self1:Go.L.Qv→Option (Aas)):Aas×Int→Option ((Aas×Int) ⊕ (Aas)):=fun⟨b,a⟩=>
 if a<(a0.length:Int) then(if(0:Int)<a then AY (b.length+a1.length≤9223372036854775807) ((Ev a0 a2 a3 a self1) (b++a1)) else(Ev a0 a2 a3 a self1) b) else Option.map Sum.inr (Gd b)
def Kk(a0:List Go.L.Qv)(a1:Aas)(a2:Int)(a3:Int)(self1:Go.L.Qv→Option (Aas))(s:Aas×Int):Option (Aas):=Go.L.run (BP a0 a1 a2 a3 self1) s
def HG(self1:Go.L.Qv→Option (Aas))(_self2:(List Go.L.Qv)→Aas→Int→Int→Option (Aas))(a0:List Go.L.Qv)(a1:Aas)(a2:Int)(a3:Int):Option (Aas):=
 (Kk a0 a1 a2 a3 self1) (([]:Aas),(0:Int))
theorem N3{self1:Go.L.Qv→Option (Aas)}{self2:(List Go.L.Qv)→Aas→Int→Int→Option (Aas)}(hself1:∀ (w:World) (H:PH) (hH:Le H (hp w)) {a0:Go.L.Qv} {e:Value} {ab:Value} {ac:Value} (j:AI .st H e (a0.f.2.1)) (_h0_1:AI .byte H ab (a0.f.2.2.2.1)) (_h0_2:AI .AV H ac (a0.f.2.2.2.2.2.2)) {r:Aas} (h:self1 a0=some r),Ok Tryz.prog 16 [.agg #[No a0.f.1,e,Aar a0.f.2.2.1,ab,No a0.f.2.2.2.2.1,No a0.f.2.2.2.2.2.1,ac]] w (fun v w'=>Ext w w'∧v=(Aar r)))(_hself2:∀ (w:World) (H:PH) (hH:Le H (hp w)) {a0:List Go.L.Qv} {a1:Aas} {a2:Int} {a3:Int} {e:Value} (j:AI .AV H e (a0)) {r:Aas} (h:self2 a0 a1 a2 a3=some r),Ok Tryz.prog 42 [e,Aar a1,No a2,No a3] w (fun v w'=>Ext w w'∧v=(Aar r)))(w:World)(H:PH)(hH:Le H (hp w)){a0:List Go.L.Qv}{a1:Aas}{a2:Int}{a3:Int}{e:Value}(j:AI .AV H e (a0)){r:Aas}(h:HG self1 self2 a0 a1 a2 a3=some r):
  Ok Tryz.prog 42 [e,Aar a1,No a2,No a3] w (fun v w'=>Ext w w'∧v=(Aar r)):=by
 refine A5 (n:=55) [(0,e),(1,(Aar a1)),(2,No a2),(3,No a3)] func42 rfl rfl rfl rfl rfl ?_;have hL:=AR.start w;refine AD 1 rfl<|AD 1 rfl<|Bm (σ:=Aas) (fun k=>[(9,(Aar k))]) (fun k wr=>AR w [] wr∧Gd k=some r) ?_ ?_
 ·refine AD 1 rfl<|A4 ?_;obtain⟨m,h⟩:=Bb h;refine Bu (σ:=Aas×Int×Nat) (fun⟨c,a,n⟩=>[(0,e),(1,(Aar a1)),(2,No a2),(3,No a3),(9,(Aar c)),(10,No a)]) (fun⟨c,a,n⟩ wr=>AR w [] wr∧FM (BP a0 a1 a2 a3 self1) n (c,a)=some r) (fun⟨c,a,n⟩=>n) (([]:Aas),(0:Int),m) (.cons rfl (.cons rfl (.cons rfl (.cons rfl (.cons rfl (.cons rfl (Sub.nil _))))))) ⟨hL,h⟩ ?_;rintro⟨c,a,nn123⟩ a6 ⟨o,h⟩;obtain⟨m,ad,rfl,h,p⟩:=Ba h;refine A8<|Bl 2 rfl<|Af (Bn rfl Abx j) rfl<|AB 1 rfl<|Bg rfl (fun q=>?_) (fun q=>?_)
  ·have h:=A1 q h;refine Av<|Ao<|A8<|A4<|Bm (σ:=Aas) (fun d=>[(0,e),(1,(Aar a1)),(2,No a2),(3,No a3),(9,(Aar d)),(10,No a)]) (fun d wr=>AR w [] wr∧(Ev a0 a2 a3 a self1) d=some ad) ?_ ?_
   ·refine AD 2 rfl<|Bg rfl (fun t=>?_) (fun t=>?_)
    ·have h:=A1 t h;refine Aq<|Ar 2 rfl ?_;obtain⟨ae,h⟩:=Ac h;refine Af (Dd rfl rfl ae) rfl<|Ar 1 rfl<|AL<|A9 (c++a1) (.cons rfl (.cons rfl (.cons rfl (.cons rfl (.cons rfl (.cons rfl (Sub.nil _))))))) ⟨o,h⟩
    have h:=A2 t h;refine Av<|A9 c (.cons rfl (.cons rfl (.cons rfl (.cons rfl (.cons rfl (.cons rfl (Sub.nil _))))))) ⟨o,h⟩
   rintro d a7 ⟨l,h⟩;refine Bm (σ:=Bool) (fun g=>[(0,e),(1,(Aar a1)),(2,No a2),(3,No a3),(9,(Aar d)),(10,No a),(37,.bool g)]) (fun g wr=>AR w [] wr∧(Eu a0 a d self1) g=some ad) ?_ ?_
   ·refine Aq<|Ar 2 rfl ?_;obtain⟨x,h⟩:=Ac h;refine Be rfl rfl Abx Bc j a.toNat (Int.toNat_of_nonneg x.1).symm (AZ x) rfl ?_;rintro bb _ e153t0 af;obtain⟨_,_,rfl,rfl,⟨_,_,rfl,⟨e153v1,rfl,e153h1⟩,⟨_,_,rfl,rfl,⟨_,_,rfl,⟨e153v3,rfl,e153h3⟩,⟨_,_,rfl,rfl,⟨_,_,rfl,rfl,⟨e153v6,rfl,e153h6⟩⟩⟩⟩⟩⟩⟩:=Go.E.Rp.Cn e153t0;refine Af (Ag rfl AaY rfl BG (by decide)) rfl ?_;have ag:=af.add 0;refine Af (Bh rfl Aau rfl ag (hH.trans l.arg)) rfl<|Ar 3 rfl<|AQ (s:=29) rfl (fun b=>?_) (fun b=>?_)
    ·have h:=A1 (of_decide_eq_true b) h
     iterate 7 refine Aj rfl rfl b rfl ?_
     refine Af (A3 rfl b rfl) rfl<|AL<|A9 true (.cons rfl (.cons rfl (.cons rfl (.cons rfl (.cons rfl (.cons rfl (.cons rfl (Sub.nil _)))))))) ⟨l,h⟩
    have h:=A2 (of_decide_eq_false b) h;refine Aa rfl rfl b<|Af (Ae rfl) rfl<|Aa rfl rfl b<|Af (Ae rfl) rfl<|Aa rfl rfl b ?_;obtain⟨y,h⟩:=Ac h;refine Be rfl rfl Abx Bc j a.toNat (Int.toNat_of_nonneg y.1).symm (AZ y) rfl ?_;rintro bc _ e159t0 ah;obtain⟨_,_,rfl,rfl,⟨_,_,rfl,⟨e159v1,rfl,e159h1⟩,⟨_,_,rfl,rfl,⟨_,_,rfl,⟨e159v3,rfl,e159h3⟩,⟨_,_,rfl,rfl,⟨_,_,rfl,rfl,⟨e159v6,rfl,e159h6⟩⟩⟩⟩⟩⟩⟩:=Go.E.Rp.Cn e159t0;refine Aa rfl rfl b<|Af (Ag rfl AaY rfl BG (by decide)) rfl ?_;have ai:=ah.add 0;refine Aa rfl rfl b<|Af (Bh rfl Aau rfl ai (hH.trans l.arg)) rfl<|Aa rfl rfl b<|Af (Ae rfl) rfl<|Aa rfl rfl b<|Af (Ae rfl) rfl<|Af (A7 rfl b rfl) rfl<|AL<|A9 (decide ((a0.getD a.toNat default).f.1=a3)) (.cons rfl (.cons rfl (.cons rfl (.cons rfl (.cons rfl (.cons rfl (.cons rfl (Sub.nil _)))))))) ⟨l,h⟩
   rintro g a8 ⟨i,h⟩;refine By rfl (fun u=>?_) (fun u=>?_)
   ·have h:=Bv u h;refine Aq<|Ar 1 rfl ?_;obtain⟨aj,h⟩:=Ac h;refine Af (Dd rfl rfl aj) rfl<|Ar 2 rfl ?_;obtain⟨z,h⟩:=Ac h;refine Be rfl rfl Abx Bc j a.toNat (Int.toNat_of_nonneg z.1).symm (AZ z) rfl ?_;rintro bd _ e166t0 ak;obtain⟨_,_,rfl,rfl,⟨_,_,rfl,⟨e166v1,rfl,e166h1⟩,⟨_,_,rfl,rfl,⟨_,_,rfl,⟨e166v3,rfl,e166h3⟩,⟨_,_,rfl,rfl,⟨_,_,rfl,rfl,⟨e166v6,rfl,e166h6⟩⟩⟩⟩⟩⟩⟩:=Go.E.Rp.Cn e166t0;refine Af (Cd rfl AaY rfl Bc ak (hH.trans i.arg)) rfl ?_;obtain⟨ax,al,h⟩:=Go.L.bind_some h;refine Ax rfl rfl i (hself1 (a0:=(a0.getD a.toNat default)) _ _ (As hH i) (e166h1.mono (Ai hH)) (e166h3.mono (Ai hH)) (e166h6.mono (Ai hH)) al) ?_;rintro _ be rfl a9 am a4;obtain⟨an,h⟩:=Ac h;refine Af (Dd rfl rfl an) rfl ?_;obtain⟨ao,h⟩:=Ac h;refine Af (Dd rfl rfl ao) rfl<|Ar 1 rfl<|AL<|AA<|Ao<|Aq<|Ar 1 rfl ?_;obtain⟨ap,h⟩:=Ac h;refine Af (AK rfl rfl rfl ap) rfl<|Ar 1 rfl<|AL ?_;have h:=BF.again h p
    refine AO ((((d++([40]:Aas))++ax)++([41]:Aas)),(a+(1:Int)),m) (.cons rfl (.cons rfl (.cons rfl (.cons rfl (.cons rfl (.cons rfl (Sub.nil _))))))) ⟨am,h⟩ (Nat.lt_succ_self _)
   have h:=Bw u h;refine Aq<|Ar 3 rfl ?_;obtain⟨aa,h⟩:=Ac h;refine Be rfl rfl Abx Bc j a.toNat (Int.toNat_of_nonneg aa.1).symm (AZ aa) rfl ?_;rintro bf _ e174t0 aq;obtain⟨_,_,rfl,rfl,⟨_,_,rfl,⟨e174v1,rfl,e174h1⟩,⟨_,_,rfl,rfl,⟨_,_,rfl,⟨e174v3,rfl,e174h3⟩,⟨_,_,rfl,rfl,⟨_,_,rfl,rfl,⟨e174v6,rfl,e174h6⟩⟩⟩⟩⟩⟩⟩:=Go.E.Rp.Cn e174t0;refine Af (Cd rfl AaY rfl Bc aq (hH.trans i.arg)) rfl ?_;obtain⟨ay,ar,h⟩:=Go.L.bind_some h;refine Ax rfl rfl i (hself1 (a0:=(a0.getD a.toNat default)) _ _ (As hH i) (e174h1.mono (Ai hH)) (e174h3.mono (Ai hH)) (e174h6.mono (Ai hH)) ar) ?_;rintro _ bg rfl ba au a5;obtain⟨av,h⟩:=Ac h;refine Af (Dd rfl rfl av) rfl<|Ar 1 rfl<|AL<|AA<|Ao<|Aq<|Ar 1 rfl ?_;obtain⟨aw,h⟩:=Ac h;refine Af (AK rfl rfl rfl aw) rfl<|Ar 1 rfl<|AL ?_;have h:=BF.again h p;refine AO ((d++ay),(a+(1:Int)),m) (.cons rfl (.cons rfl (.cons rfl (.cons rfl (.cons rfl (.cons rfl (Sub.nil _))))))) ⟨au,h⟩ (Nat.lt_succ_self _)
  have h:=A2 q h;refine Bq<|AH<|A6 ?_;have h:=BF.out h p;refine Bf<|A9 c (.cons rfl (Sub.nil _)) ⟨o,h⟩
 rintro k bh ⟨az,h⟩;refine AD 2 rfl<|Az ?_;obtain rfl:=Option.some.inj h;refine An rfl rfl ?_;exact⟨az.ext,rfl⟩
def BA:Nat→(Go.L.Qv→Option (Aas))×((List Go.L.Qv)→Aas→Int→Int→Option (Aas))
 | 0=>(fun _=>none,fun _ _ _ _=>none)
 | n+1=>(Gz ((BA n).1) ((BA n).2),HG ((BA n).1) ((BA n).2))
def Lg:Go.L.Qv→Option (Aas):=(BA 1000).1
theorem MO(n:Nat):(∀ (w:World) (H:PH) (hH:Le H (hp w)) {a0:Go.L.Qv} {a:Value} {b:Value} {c:Value} (d:AI .st H a (a0.f.2.1)) (e:AI .byte H b (a0.f.2.2.2.1)) (g:AI .AV H c (a0.f.2.2.2.2.2.2)) {r:Aas} (h:((BA n).1) a0=some r),Ok Tryz.prog 16 [.agg #[No a0.f.1,a,Aar a0.f.2.2.1,b,No a0.f.2.2.2.2.1,No a0.f.2.2.2.2.2.1,c]] w (fun v w'=>Ext w w'∧v=(Aar r)))∧(∀ (w:World) (H:PH) (hH:Le H (hp w)) {a0:List Go.L.Qv} {a1:Aas} {a2:Int} {a3:Int} {a:Value} (d:AI .AV H a (a0)) {r:Aas} (h:((BA n).2) a0 a1 a2 a3=some r),Ok Tryz.prog 42 [a,Aar a1,No a2,No a3] w (fun v w'=>Ext w w'∧v=(Aar r))):=by
 induction n with
 | zero=>exact⟨(by intros;rename_i h;cases h),(by intros;rename_i h;cases h)⟩
 | succ n ih=>exact⟨M3 ih.1 ih.2,N3 ih.1 ih.2⟩
theorem Pa(w:World)(H:PH)(hH:Le H (hp w)){a0:Go.L.Qv}{a:Value}{b:Value}{c:Value}(d:AI .st H a (a0.f.2.1))(e:AI .byte H b (a0.f.2.2.2.1))(g:AI .AV H c (a0.f.2.2.2.2.2.2)){r:Aas}(h:Lg a0=some r):Ok Tryz.prog 16 [.agg #[No a0.f.1,a,Aar a0.f.2.2.1,b,No a0.f.2.2.2.2.1,No a0.f.2.2.2.2.2.1,c]] w (fun v w'=>Ext w w'∧v=(Aar r)):=(MO 1000).1 w H hH d e g h
def Hq(a0:Go.L.Qv):Option ((Int×Int)):=
 Option.bind (Lc a0 (0:Int) (1:Int)) (fun a=>if a.2.1=(0:Int) then Option.bind (Lg a0) (fun c=>if(200:Int)<(c.length:Int) then Option.bind (H9 (14:Int) (-1:Int)) (fun b=>some ((b.1,b.2))) else some ((a.2.1,a.2.2))) else some ((a.2.1,a.2.2)))
theorem Lh(w:World)(H:PH)(hH:Le H (hp w)){a0:Go.L.Qv}{d:Value}{e:Value}{g:Value}(k:AI .st H d (a0.f.2.1))(l:AI .byte H e (a0.f.2.2.2.1))(m:AI .AV H g (a0.f.2.2.2.2.2.2)){r:(Int×Int)}(h:Hq a0=some r):
  Ok Tryz.prog 12 [.agg #[No a0.f.1,d,Aar a0.f.2.2.1,e,No a0.f.2.2.2.2.1,No a0.f.2.2.2.2.2.1,g]] w (fun v w'=>Ext w w'∧v=.agg #[No r.1,No r.2]):=by
 refine A5 (n:=21) [(0,.agg #[No a0.f.1,d,Aar a0.f.2.2.1,e,No a0.f.2.2.2.2.1,No a0.f.2.2.2.2.2.1,g])] func12 rfl rfl rfl rfl rfl ?_;have hL:=AR.start w;refine Al<|Cv (t:=26) rfl rfl rfl hL fun w1 b1 aa al _=>AJ AT rfl rfl aa fun w2 b2 o am _=>Ad<|Al<|Af (AE 1 rfl AaY rfl Bc o rfl) rfl ?_;obtain⟨x3,ab,h⟩:=Go.L.bind_some h;refine Ax rfl rfl o (OZ (a0:=a0) _ _ (As hH o) (k.mono (Ai hH)) (l.mono (Ai hH)) (m.mono (Ai hH)) ab) ?_;rintro _ w4 rfl au ac an;refine Ar 3 rfl<|AJ AT rfl rfl ac fun w5 b5 ad ao _=>Ar 1 rfl<|Ak 0 rfl rfl rfl AT ad rfl rfl (AF rfl (AF rfl BM)) fun w6 b ap=>Ad<|A8<|Al<|Af (Ag rfl AaR rfl BG (by decide)) rfl<|Af (Ah 0 rfl Aau rfl b rfl rfl) rfl<|Ar 2 rfl<|AQ (s:=13) rfl (fun a=>?_) (fun a=>?_)
 ·have h:=A1 (of_decide_eq_true a) h;refine Aa rfl rfl a<|Af (AE 2 rfl AaY rfl Bc b rfl) rfl<|Aa rfl rfl a ?_;obtain⟨x9,ae,h⟩:=Go.L.bind_some h;refine Ax rfl rfl b (Pa (a0:=a0) _ _ (As hH b) (k.mono (Ai hH)) (l.mono (Ai hH)) (m.mono (Ai hH)) ae) ?_;rintro _ av rfl aq c af;refine Aa rfl rfl a<|Af (CL rfl AaG) rfl<|Aa rfl rfl a<|Af (Ae rfl) rfl<|Af (A3 rfl a rfl) rfl<|Ad<|Bg rfl (fun j=>?_) (fun j=>?_)
  ·have h:=A1 j h;refine Aq ?_;obtain⟨aw,y,h⟩:=Go.L.bind_some h;refine Ax rfl rfl c (Gi _ _ (As hH c) y) ?_;rintro _ ax rfl ar z ag;refine Ak 0 rfl rfl rfl AT z rfl rfl (AF rfl (AF rfl BM)) fun ay p ah=>AL<|Ao<|Al<|Af (AE 0 rfl AaR rfl AT p rfl) rfl<|Ak 1 rfl rfl rfl AT p rfl rfl (AF rfl (AF rfl BM)) fun az q ai=>Ad<|Az ?_;obtain rfl:=Option.some.inj h;refine B7 rfl (.cell rfl AaR rfl AT (AS (i:=1) q rfl)) ?_;exact⟨q.ext,rfl⟩
  have h:=A2 j h;refine Av<|Ao<|Al<|Af (AE 0 rfl AaR rfl AT c rfl) rfl<|Ak 1 rfl rfl rfl AT c rfl rfl (AF rfl (AF rfl BM)) fun a1 u aj=>Ad<|Az ?_;obtain rfl:=Option.some.inj h;refine B7 rfl (.cell rfl AaR rfl AT (AS (i:=1) u rfl)) ?_;exact⟨u.ext,rfl⟩
 have h:=A2 (of_decide_eq_false a) h
 iterate 4 refine Aj rfl rfl a rfl ?_
 refine Af (A7 rfl a rfl) rfl<|Ad<|Ch rfl<|Av<|Ao<|Al<|Af (AE 0 rfl AaR rfl AT b rfl) rfl<|Ak 1 rfl rfl rfl AT b rfl rfl (AF rfl (AF rfl BM)) fun a2 x ak=>Ad<|Az ?_;obtain rfl:=Option.some.inj h;refine B7 rfl (.cell rfl AaR rfl AT (AS (i:=1) x rfl)) ?_;exact⟨x.ext,rfl⟩
end Go.Proofs.YtekmbcbgknmhiaaGreatDoor
end
noncomputable section
namespace Go.L
open Go
def Smq(B:Nat):Nat→Qv→Prop
 | 0,_=>True
 | d+1,q=>q.f.2.1.length≤B∧q.f.2.2.1.length≤B∧q.f.2.2.2.1.length≤B∧q.f.2.2.2.2.2.2.length≤B∧(∀ x∈q.f.2.1,x.length≤B)∧BJ q.f.2.2.2.2.1∧BJ q.f.2.2.2.2.2.1∧∀ p∈q.f.2.2.2.2.2.2,Smq B d p
end Go.L
namespace Go.Proofs.YtekmbcbgknmhiaaGreatDoor
open Go Go.L
def Un:List (List UInt8)→Int
 | []=>0
 | w::l=>if(wf w).1=0 then Un l else(wf w).1
theorem AaM{w:List UInt8}(h:(wf w).1=0):wf w=(0,0):=by
 unfold wf at h ⊢
 split at h
 ·cases h
 ·rename_i a;rw [if_neg a]
  split at h
  ·rename_i b;rw [if_pos b]
  ·cases h
theorem AaN{w:List UInt8}(h:(pf w).1=0):pf w=(0,0):=by
 unfold pf at h ⊢
 split at h
 ·cases h
 ·rename_i a;rw [if_neg a]
  split at h
  ·cases h
  ·rename_i b;rw [if_neg b]
theorem Qf(k:Int)(ws:List (List UInt8))(p d:List UInt8)(l h:Int)(ss:List Qv):(Qv.mk k ws p d l h ss).f=(k,ws,p,d,l,h,ss):=rfl
theorem Ss{ws:List (List UInt8)}(hl:ws.length≤1000000000){b:Int→Option (Int ⊕ Int)}{m:Option Int}
  (a:∀ i:Nat,i<ws.length→b (i:Int)=if(wf (ws.getD i default)).1=0 then some (.inl ((i:Int)+1)) else some (.inr (wf (ws.getD i default)).1)) (h2:b (ws.length:Int)=m.map Sum.inr):Go.L.run b 0=if Un ws=0 then m else some (Un ws):=by
 have key:∀ (d i:Nat),i+d=ws.length→Go.L.run b (i:Int)=if Un (ws.drop i)=0 then m else some (Un (ws.drop i)):=by
  intro d
  induction d with
  | zero=>
   intro i hi;rw [List.drop_eq_nil_of_le (by omega),if_pos (by rfl),show i=ws.length by omega];exact B2 h2
  | succ d ih=>
   intro i hi;have hb:=a i (by omega);rw [List.drop_eq_getElem_cons (by omega),Un];have hg:ws.getD i default=ws[i]:=by rw [List.getD_eq_getElem?_getD,List.getElem?_eq_getElem (by omega)];rfl
   rw [hg] at hb
   by_cases hw:(wf ws[i]).1=0
   ·rw [if_pos hw] at hb ⊢;rw [BK hb];exact ih (i+1) (by omega)
   ·rw [if_neg hw] at hb ⊢;rw [if_neg hw];exact B2 (m:=some _) hb
 exact key ws.length 0 (by omega)
def LN(q:Qv):Bool:=q.f.2.2.2.2.2.2.any fun s=>decide (s.f.1=q.f.1)
theorem XM{l:List Qv}{k:Int}(hl:l.length≤1000000000){σ ρ:Type}{b:σ→Option (σ ⊕ ρ)}{st:Nat→σ}{m y:Option ρ}
  (a:∀ i:Nat,i<l.length→b (st i)=if(l.getD i default).f.1=k then y.map Sum.inr else some (.inl (st (i+1)))) (h2:b (st l.length)=m.map Sum.inr):Go.L.run b (st 0)=if(l.any fun s=>decide (s.f.1=k)) then y else m:=by
 have key:∀ (d i:Nat),i+d=l.length→Go.L.run b (st i)=if((l.drop i).any fun s=>decide (s.f.1=k)) then y else m:=by
  intro d
  induction d with
  | zero=>
   intro i hi;rw [List.drop_eq_nil_of_le (by omega),if_neg (by simp),show i=l.length by omega];exact B2 h2
  | succ d ih=>
   intro i hi;have hb:=a i (by omega);have hg:l.getD i default=l[i]:=by rw [List.getD_eq_getElem?_getD,List.getElem?_eq_getElem (by omega)];rfl
   rw [hg] at hb;rw [List.drop_eq_getElem_cons (by omega),List.any_cons]
   by_cases hw:l[i].f.1=k
   ·rw [if_pos hw] at hb;rw [decide_eq_true hw,Bool.true_or,if_pos rfl];exact B2 hb
   ·rw [if_neg hw] at hb;rw [BK hb,decide_eq_false hw,Bool.false_or];exact ih (i+1) (by omega)
 exact key l.length 0 (by omega)
end Go.Proofs.YtekmbcbgknmhiaaGreatDoor
namespace Go.Proofs.YtekmbcbgknmhiaaGreatDoor
open Go Go.L
theorem Zn{q:Qv}(hl:q.f.2.2.2.2.2.2.length≤1000000000):∃ u,AU q.f.2.2.2.2.2.2 q=some (LN q,u):=by
 unfold AU BD BV;obtain⟨k,ws,pat,data,low,high,subs⟩:=q;simp only [Qf] at hl ⊢
 have key:∃ r,Go.L.run (Bj subs) (k,ws,pat,data,low,high,subs,0)=some r∧decide (0≤r.1)=LN (.mk k ws pat data low high subs):=by
  have:∀ (d i:Nat),i+d=subs.length→∃ r,Go.L.run (Bj subs) (k,ws,pat,data,low,high,subs,(i:Int))=some r∧decide (0≤r.1)=(subs.drop i).any fun s=>decide (s.f.1=k):=by
   intro d
   induction d with
   | zero=>
    intro i hi;refine⟨(-1,.mk k ws pat data low high subs),B2 (m:=some _) ?_,?_⟩
    ·unfold Bj;simp only;rw [if_neg (by omega)]
     rfl
    ·rw [List.drop_eq_nil_of_le (by omega)]
     rfl
   | succ d ih=>
    intro i hi;have hg:subs.getD i default=subs[i]:=by rw [List.getD_eq_getElem?_getD,List.getElem?_eq_getElem (by omega)];rfl
    rw [List.drop_eq_getElem_cons (by omega),List.any_cons]
    have hb:Bj subs (k,ws,pat,data,low,high,subs,(i:Int))=if subs[i].f.1=k then some (.inr ((i:Int),.mk k ws pat data low high subs)) else some (.inl (k,ws,pat,data,low,high,subs,((i+1:Nat):Int))):=by
     unfold Bj;simp only;rw [if_pos (by omega),Aw ⟨by omega,by omega⟩,Int.toNat_natCast,hg];unfold Hn;simp only [Option.bind_some,Qf]
     by_cases hk:subs[i].f.1=k
     ·simp [hk]
     ·simp only [hk,decide_false,Bool.false_eq_true,if_false];rw [Aw (by constructor <;> omega)]
      rfl
    by_cases hk:subs[i].f.1=k
    ·rw [if_pos hk] at hb;refine⟨_,B2 (m:=some _) hb,?_⟩;rw [decide_eq_true hk,Bool.true_or];exact decide_eq_true (by omega)
    ·rw [if_neg hk] at hb;rw [BK hb,decide_eq_false hk,Bool.false_or];exact ih (i+1) (by omega)
  exact this subs.length 0 (by omega)
 obtain⟨r,a,h2⟩:=key;rw [a,Option.bind_some,h2];exact⟨_,rfl⟩
def Wn(q:Qv):Bool:=
 let k:=q.f.1
 let n:=q.f.2.1.length
 let m:=q.f.2.2.2.2.2.2.length
 (if k=1 then decide (n=1) else if k=2 then decide (2≤n∧n≤16) else if k=3 then decide (n=2) else decide (n=0)) &&
 (decide (k=5∨k=6∨k=7)||decide (q.f.2.2.1=[]))&&(decide (k=4∨k=7)||decide (q.f.2.2.2.1=[])) &&
 (decide (k=3∨k=6)||decide (q.f.2.2.2.2.1=0))&&(decide (k=6)||decide (q.f.2.2.2.2.2.1=0)) &&
 (if k=8∨k=9 then decide (2≤m)&&!LN q else if k=10 then decide (m=1) else decide (m=0))
theorem Wo{q:Qv}(hl:q.f.2.2.2.2.2.2.length≤1000000000)(hk:1≤q.f.1∧q.f.1≤10):Hx q=some (Wn q):=by
 obtain⟨u,hc⟩:=Zn hl;unfold Hx BI;rw [hc];clear hc;unfold Wn;clear hl;generalize LN q=B;generalize q.f.1=k at hk ⊢;generalize q.f.2.1.length=n;have hd:∀ l:List UInt8,l=[]↔l.length=0:=fun l=>List.length_eq_zero_iff.symm;have hd':([]=q.f.2.2.1)↔q.f.2.2.1.length=0:=by rw [eq_comm,hd]
 generalize q.f.2.2.2.2.1=low;generalize q.f.2.2.2.1=data;generalize q.f.2.2.2.2.2.1=high;generalize q.f.2.2.2.2.2.2.length=m;obtain rfl | rfl | rfl | rfl | rfl | rfl | rfl | rfl | rfl | rfl:k=1∨k=2∨k=3∨k=4∨k=5∨k=6∨k=7∨k=8∨k=9∨k=10:=by omega
 all_goals simp only [Int.reduceEq,if_true,if_false,hd',decide_true,decide_false,Bool.or_false,Bool.or_true,Bool.false_or,Bool.true_or,Bool.not_true,Bool.not_false,Bool.false_eq_true,Option.bind_some,List.length_nil,cond_true,cond_false,or_false,or_true,false_or,true_or,hd,List.nil_eq]
 all_goals (repeat' split)
 all_goals (refine congrArg some (Bool.eq_iff_iff.2 ?_))
 all_goals clear hd hd'
 all_goals (simp only [Bool.and_eq_true,decide_eq_true_eq,Bool.or_eq_true,Bool.false_eq_true,Bool.not_eq_true',Bool.not_eq_true,true_iff,false_iff,iff_true,iff_false,Bool.true_eq_false,Int.natCast_eq_zero,and_true,true_and] at *)
 all_goals first | omega | exact⟨fun h=>⟨by omega,by omega,h⟩,fun h=>h.2.2⟩
theorem NP{q:Qv}(h:Wn q=true):q.f.2.1.length≤16:=by
 unfold Wn at h;simp only [Bool.and_eq_true] at h;have:=h.1.1.1.1.1
 split at this
 ·simp at this;omega
 ·split at this
  ·simp at this;omega
  ·split at this
   ·simp at this;omega
   ·simp at this;simp [this]
def nt(q:Qv):Int:=if(q.f.1=3∧(q.f.2.2.2.2.1<1∨2048<q.f.2.2.2.2.1))∨(q.f.1=6∧q.f.2.2.2.2.2.1<q.f.2.2.2.2.1) then 4 else if q.f.1=4∧q.f.2.2.2.1.length=0 then 10 else if 64<q.f.2.2.2.1.length then 3 else 0
def nf(q:Qv):Int:=if 1≤q.f.1∧q.f.1≤10 then(if Wn q=true then(if Un q.f.2.1=0 then(if(pf q.f.2.2.1).1=0 then nt q else(pf q.f.2.2.1).1) else Un q.f.2.1) else 6) else 5
theorem Tj{q:Qv}(hl:q.f.2.2.2.2.2.2.length≤1000000000):Fu q=some (nf q):=by
 unfold Fu nf
 by_cases hk:1≤q.f.1∧q.f.1≤10
 ·rw [if_neg (by simp;omega),if_pos hk,Wo hl hk,Option.bind_some]
  cases hF:Wn q with
  | false=>rfl
  | true=>
   rw [if_neg (by decide),if_pos rfl];have hw:=NP hF;unfold Gu;rw [Ss (ws:=q.f.2.1) (b:=C3 q) (m:=DE q) (by omega) ?A ?B]
   ·by_cases c:Un q.f.2.1=0
    ·rw [if_pos c,if_pos c];unfold DE;rw [Wg,Option.bind_some]
     by_cases a:(pf q.f.2.2.1).1=0
     ·rw [if_pos (by rw [AaN a];exact⟨rfl,rfl⟩),if_pos a];unfold DD nt;clear hl hw hF c a;generalize q.f.1=k at hk ⊢;generalize q.f.2.2.2.1.length=n;generalize q.f.2.2.2.2.1=low;generalize q.f.2.2.2.2.2.1=high;simp only [Bool.and_eq_true,decide_eq_true_eq,Bool.or_eq_true]
      repeat' split
      all_goals first | rfl | (exfalso;omega)
     ·rw [if_neg (fun h=>a h.1),if_neg a]
    ·rw [if_neg c,if_neg c]
   ·intro i hi;unfold C3;rw [if_pos (by omega),Aw ⟨by omega,by omega⟩,Int.toNat_natCast,X2,Option.bind_some]
    by_cases a:(wf (q.f.2.1.getD i default)).1=0
    ·rw [if_pos (by rw [AaM a];exact⟨rfl,rfl⟩),if_pos a,Aw (by constructor <;> omega)]
    ·rw [if_neg (fun h=>a h.1),if_neg a]
     rfl
   ·unfold C3;rw [if_neg (by omega)]
 ·rw [if_pos (by simp;omega),if_neg hk]
theorem Tk{q:Qv}(hl:q.f.2.2.2.2.2.2.length≤1000000000):J9 q=some (nf q):=by
 have e:q.f.2.1.length≤16→CQ q=some (if Un q.f.2.1=0 then(if(pf q.f.2.2.1).1=0 then nt q else(pf q.f.2.2.1).1) else Un q.f.2.1):=fun hw=>by
  unfold CQ L5;rw [Ss (ws:=q.f.2.1) (b:=F8 q) (m:=HE q) (by omega) ?A ?B]
  ·by_cases d:Un q.f.2.1=0
   ·rw [if_pos d,if_pos d];unfold HE;rw [We,Option.bind_some]
    by_cases c:(pf q.f.2.2.1).1=0
    ·rw [if_pos c,if_pos c];unfold nt;clear hl hw d c;generalize q.f.1=k;generalize q.f.2.2.2.1.length=n;generalize q.f.2.2.2.2.1=low;generalize q.f.2.2.2.2.2.1=high;simp only [Bool.and_eq_true,decide_eq_true_eq,Bool.or_eq_true,Bool.not_eq_true',decide_eq_false_iff_not]
     repeat' split
     all_goals first | rfl | (exfalso;omega)
    ·rw [if_neg c,if_neg c]
   ·rw [if_neg d,if_neg d]
  ·intro i hi;unfold F8;rw [if_pos (by omega),Aw ⟨by omega,by omega⟩,Int.toNat_natCast,Ta,Option.bind_some]
   by_cases c:(wf (q.f.2.1.getD i default)).1=0
   ·rw [if_pos c,if_pos c,Aw (by constructor <;> omega)]
   ·rw [if_neg c,if_neg c]
    rfl
  ·unfold F8;rw [if_neg (by omega)]
 have g:HF q=if LN q=true∧q.f.1<10 then some 6 else CQ q:=by
  unfold HF L6
  by_cases j:q.f.1<10
  ·have:=XM (k:=q.f.1) hl (b:=DU q) (st:=fun i=>(i:Int)) (m:=CQ q) (y:=some 6) (fun i hi=>?_) ?_
   ·unfold LN;simp only [j,and_true];exact this
   ·unfold DU;rw [if_pos (by simp;omega),Aw ⟨by omega,by omega⟩,Int.toNat_natCast,Aw (by constructor <;> omega)]
    rfl
   ·unfold DU;rw [if_neg (by simp)]
  ·rw [if_neg (fun h=>j h.2)];refine B2 ?_;unfold DU;rw [if_neg (by simp;omega)]
 unfold J9 nf
 by_cases hk:1≤q.f.1∧q.f.1≤10
 ·rw [if_pos hk,if_pos hk,Aw ⟨by omega,by omega⟩,Aw ⟨by omega,by omega⟩,g];have hX:Wn q=true→CQ q=_:=fun h=>e (NP h);clear g e hl
  revert hX
  generalize (if Un q.f.2.1=0 then(if(pf q.f.2.2.1).1=0 then nt q else(pf q.f.2.2.1).1) else Un q.f.2.1)=r;generalize CQ q=X;have hd:∀ l:List UInt8,l=[]↔l.length=0:=fun l=>List.length_eq_zero_iff.symm;unfold Wn
  have hB:LN q=true→0<q.f.2.2.2.2.2.2.length:=fun h=>by
   unfold LN at h
   cases hs:q.f.2.2.2.2.2.2 with
   | nil=>rw [hs] at h;cases h
   | cons a l=>simp
  revert hB
  generalize LN q=B;generalize q.f.1=k at hk ⊢;generalize q.f.2.1.length=n;simp only [hd];generalize q.f.2.2.1.length=pn;generalize q.f.2.2.2.2.1=low;generalize q.f.2.2.2.1.length=dn;generalize q.f.2.2.2.2.2.1=high;generalize q.f.2.2.2.2.2.2.length=m;intro hB hX;obtain rfl | rfl | rfl | rfl | rfl | rfl | rfl | rfl | rfl | rfl:k=1∨k=2∨k=3∨k=4∨k=5∨k=6∨k=7∨k=8∨k=9∨k=10:=by omega
  all_goals (cases B <;> simp at hX hB ⊢ <;> (repeat' split) <;> first | rfl | (exfalso;omega) | (intros;exfalso;omega) | (rw [hX] <;> omega))
 ·rw [if_neg hk,if_neg hk]
end Go.Proofs.YtekmbcbgknmhiaaGreatDoor
end
noncomputable section
namespace Go.Proofs.YtekmbcbgknmhiaaGreatDoor
open Go Go.L
def Sq(q:Qv):Prop:=∀ d,Smq 1048576 d q
theorem Sq.open{q:Qv}(h:Sq q):q.f.2.1.length≤1048576∧q.f.2.2.1.length≤1048576∧q.f.2.2.2.1.length≤1048576∧q.f.2.2.2.2.2.2.length≤1048576∧(∀ x∈q.f.2.1,x.length≤1048576)∧BJ q.f.2.2.2.2.1∧BJ q.f.2.2.2.2.2.1:=
 ⟨(h 1).1,(h 1).2.1,(h 1).2.2.1,(h 1).2.2.2.1,(h 1).2.2.2.2.1,(h 1).2.2.2.2.2.1,(h 1).2.2.2.2.2.2.1⟩
theorem Sq.sub{q:Qv}(h:Sq q){p:Qv}(hp:p∈q.f.2.2.2.2.2.2):Sq p:=fun d=>(h (d+1)).2.2.2.2.2.2.2 p hp
theorem Sq.len{q:Qv}(h:Sq q):q.f.2.2.2.2.2.2.length≤1000000000:=by have:=h.open.2.2.2.1;omega
def Wv(f:Qv→Int→Int→Int×(Int×Int))(lev:Int):List Qv→Int→Int×(Int×Int)
 | [],num=>(num,(0,0))
 | s::l,num=>if(f s num lev).2.1=0 then Wv f lev l (f s num lev).1 else(0,(f s num lev).2)
def ck:Nat→Qv→Int→Int→Int×(Int×Int)
 | 0,_,_,_=>(0,(0,0))
 | n+1,q,num,lev=>if 40≤num∨8<lev then(0,(2,num)) else if nf q=0 then Wv (ck n) (lev+1) q.f.2.2.2.2.2.2 (num+1) else(0,(nf q,num))
def CkP(r:Int×(Int×Int)):Prop:=0≤r.1∧(r.2.1=0→r.2=(0,0))
theorem ZD{f:Qv→Int→Int→Int×(Int×Int)}{lev:Int}:∀ (l:List Qv) (num:Int),0≤num→(∀ s∈l,∀ num,0≤num→CkP (f s num lev))→CkP (Wv f lev l num)
 | [],num,h,_=>⟨h,fun _=>rfl⟩
 | s::l,num,h,hf=>by
  have a:=hf s (List.mem_cons_self ..) num h;unfold Wv
  split
  ·exact ZD l _ a.1 (fun s hs=>hf s (List.mem_cons_of_mem _ hs))
  ·exact⟨Int.le_refl _,fun e=>absurd e (by assumption)⟩
theorem V0{l:List Qv}(hl:l.length≤1000000000){f:Qv→Int→Int→Int×(Int×Int)}{lev:Int}{b:Int×Int→Option ((Int×Int) ⊕ (Int×(Int×Int)))}
  (hp:∀ s∈l,∀ num,0≤num→CkP (f s num lev))
  (a:∀ (i:Nat) (num:Int),0≤num→i<l.length→b (num,(i:Int))=if(f (l.getD i default) num lev).2.1=0 then some (.inl ((f (l.getD i default) num lev).1,(i:Int)+1)) else some (.inr (0,(f (l.getD i default) num lev).2)))
  (h2:∀ num,b (num,(l.length:Int))=some (.inr (num,(0,0)))) (num:Int) (hn:0≤num):Go.L.run b (num,0)=some (Wv f lev l num):=by
 have key:∀ (d i:Nat) (num:Int),0≤num→i+d=l.length→Go.L.run b (num,(i:Int))=some (Wv f lev (l.drop i) num):=by
  intro d
  induction d with
  | zero=>
   intro i num hn hi;rw [List.drop_eq_nil_of_le (by omega),show i=l.length by omega];exact B2 (m:=some _) (h2 num)
  | succ d ih=>
   intro i num hn hi;have hb:=a i num hn (by omega);have hg:l.getD i default=l[i]:=by rw [List.getD_eq_getElem?_getD,List.getElem?_eq_getElem (by omega)];rfl
   rw [hg] at hb;rw [List.drop_eq_getElem_cons (by omega),Wv]
   by_cases hw:(f l[i] num lev).2.1=0
   ·rw [if_pos hw] at hb ⊢;rw [BK hb];exact ih (i+1) _ (hp _ (List.getElem_mem _) num hn).1 (by omega)
   ·rw [if_neg hw] at hb ⊢;exact B2 (m:=some _) hb
 exact key l.length 0 num hn (by omega)
theorem M4{l:List Qv}{i:Nat}(h:i<l.length):l.getD i default∈l:=by
 rw [List.getD_eq_getElem?_getD,List.getElem?_eq_getElem h];exact List.getElem_mem _
theorem XN:∀ (n:Nat) (q:Qv) (num lev:Int),Sq q→0≤num→1≤lev→lev≤9→10≤lev+n→
  D6 n q num lev=some (ck n q num lev)∧DV n q num lev=some (ck n q num lev)∧CkP (ck n q num lev)
 | 0,q,num,lev,_,_,_,a,h2=>by omega
 | n+1,q,num,lev,hq,hn,g,j,k=>by
  show D5 (D6 n) q num lev=_∧Gx (DV n) q num lev=_∧_
  unfold D5 Gx ck
  by_cases b:40≤num∨8<lev
  ·rw [if_pos b,if_pos b,if_pos b];exact⟨rfl,rfl,by show(0:Int)≤0;omega,fun e=>by cases e⟩
  ·rw [if_neg b,if_neg b,if_neg b,Tj hq.len,Tk hq.len,Option.bind_some,Option.bind_some]
   by_cases a:nf q=0
   ·rw [if_pos a,if_pos a,if_pos a,Aw (by constructor <;> omega),Aw (by constructor <;> omega)]
    have ih:∀ s∈q.f.2.2.2.2.2.2,∀ num,0≤num→D6 n s num (lev+1)=some (ck n s num (lev+1))∧DV n s num (lev+1)=some (ck n s num (lev+1))∧CkP (ck n s num (lev+1)):=
     fun s hs num hn=>XN n s num (lev+1) (hq.sub hs) hn (by omega) (by omega) (by omega)
    have hp:∀ s∈q.f.2.2.2.2.2.2,∀ num,0≤num→CkP (ck n s num (lev+1)):=fun s hs num hn=>(ih s hs num hn).2.2;refine⟨?_,?_,ZD _ _ (by omega) hp⟩
    ·refine V0 hq.len hp (fun i num hn hi=>?_) (fun num=>?_) _ (by omega)
     ·unfold CV;simp only;obtain⟨c,_,d⟩:=ih _ (M4 hi) num hn;rw [if_pos (by omega),Aw ⟨by omega,by omega⟩,Int.toNat_natCast,Aw (by constructor <;> omega),c,Option.bind_some]
      by_cases h2:(ck n (q.f.2.2.2.2.2.2.getD i default) num (lev+1)).2.1=0
      ·rw [if_pos (by rw [d.2 h2];exact⟨rfl,rfl⟩),if_pos h2,Aw (by have:=hq.len;constructor <;> omega)]
      ·rw [if_neg (fun h=>h2 h.1),if_neg h2]
       rfl
     ·unfold CV;simp only;rw [if_neg (by omega)]
      rfl
    ·refine V0 hq.len hp (fun i num hn hi=>?_) (fun num=>?_) _ (by omega)
     ·unfold E8;simp only;obtain⟨_,c,d⟩:=ih _ (M4 hi) num hn;rw [if_pos (by omega),Aw ⟨by omega,by omega⟩,Int.toNat_natCast,Aw (by constructor <;> omega),c,Option.bind_some]
      by_cases h2:(ck n (q.f.2.2.2.2.2.2.getD i default) num (lev+1)).2.1=0
      ·rw [if_pos h2,if_pos h2,Aw (by have:=hq.len;constructor <;> omega)]
      ·rw [if_neg h2,if_neg h2]
       rfl
     ·unfold E8;simp only;rw [if_neg (by omega)]
      rfl
   ·rw [if_neg a,if_neg a,if_neg a];exact⟨rfl,rfl,by show(0:Int)≤0;omega,fun e=>absurd e a⟩
def Vq:Nat→Qv→Prop
 | 0,_=>False
 | n+1,q=>nf q=0∧∀ s∈q.f.2.2.2.2.2.2,Vq n s
def nq:Nat→Qv→Nat
 | 0,_=>0
 | n+1,q=>1+(q.f.2.2.2.2.2.2.map (nq n)).sum
theorem XO{f:Qv→Int→Int→Int×(Int×Int)}{lev:Int}{g:Qv→Nat}{V:Qv→Prop}:∀ (l:List Qv) (num:Int),(∀ s∈l,∀ num,(f s num lev).2.1=0→(f s num lev).1=num+g s∧(f s num lev).1≤40∧V s)→num≤40→(Wv f lev l num).2.1=0→
  (Wv f lev l num).1=num+(l.map g).sum∧(Wv f lev l num).1≤40∧∀ s∈l,V s
 | [],num,_,h,_=>⟨by simp [Wv],h,by simp⟩
 | s::l,num,hf,h,he=>by
  unfold Wv at he ⊢;have hs:=hf s (List.mem_cons_self ..) num
  split at he
  ·rename_i a;rw [if_pos a];obtain⟨b,c,d⟩:=hs a;obtain⟨e,i,j⟩:=XO l _ (fun s hs=>hf s (List.mem_cons_of_mem _ hs)) c he;refine⟨by rw [e,b];simp;omega,i,fun x hx=>?_⟩
   rcases List.mem_cons.1 hx with rfl | hx
   ·exact d
   ·exact j x hx
  ·rename_i a;exact absurd he a
theorem ZE:∀ (n:Nat) (q:Qv) (num lev:Int),10≤lev+n→lev≤9→∀ m:Nat,lev+m=9→(ck n q num lev).2.1=0→(ck n q num lev).1=num+nq m q∧(ck n q num lev).1≤40∧Vq m q
 | 0,q,num,lev,h,h',_,_=>by omega
 | n+1,q,num,lev,h,h',m,hm=>by
  unfold ck
  by_cases b:40≤num∨8<lev
  ·rw [if_pos b];intro e
   cases e
  ·rw [if_neg b]
   by_cases a:nf q=0
   ·rw [if_pos a];intro he;obtain⟨m,rfl⟩:∃ k,m=k+1:=⟨m - 1,by omega⟩;obtain⟨c,d,f⟩:=XO (g:=nq m) (V:=Vq m) _ (num+1) (fun s hs num he=>ZE n s num (lev+1) (by omega) (by omega) m (by omega) he) (by omega) he;exact⟨by rw [c];unfold nq;omega,d,a,f⟩
   ·rw [if_neg a];intro e;exact absurd e a
end Go.Proofs.YtekmbcbgknmhiaaGreatDoor
end
noncomputable section
namespace Go.L
open Go
def hxd(n:Nat):UInt8:=([48,49,50,51,52,53,54,55,56,57,97,98,99,100,101,102]:List UInt8).getD n 0
def Ww(c:UInt8):List UInt8:=if(32≤c.toNat∧c.toNat≤126)∧c.toNat≠39∧c.toNat≠92 then[c] else[92,hxd (c.toNat / 16),hxd (c.toNat % 16)]
def quo(l:List UInt8):List UInt8:=39::l.flatMap Ww++[39]
theorem Tl(c:UInt8):1≤(Ww c).length∧(Ww c).length≤3:=by
 unfold Ww
 split <;> simp
theorem R2:∀ l:List UInt8,(l.flatMap Ww).length≤3 * l.length
 | []=>by simp
 | c::l=>by
  have a:=R2 l;have h2:=(Tl c).2;rw [List.flatMap_cons,List.length_append,List.length_cons];omega
end Go.L
namespace Go.Proofs.YtekmbcbgknmhiaaGreatDoor
open Go Go.L
theorem PW{n:Nat}(h:n<16):Hu (n:Int)=some (hxd n):=by
 have:∀ k:Fin 16,Hu ((k.val:Nat):Int)=some (hxd k.val):=by
  intro k;unfold Hu
  split
  ·rw [Aw (by have:=k.isLt;constructor <;> omega)]
   revert k
   decide
  ·rw [Aw (by have:=k.isLt;constructor <;> omega),Aw (by have:=k.isLt;constructor <;> omega)]
   revert k
   decide
 exact this ⟨n,h⟩
theorem St{l:List UInt8}(hl:l.length≤1000000000):Kj l=some (quo l):=by
 unfold Kj N0
 have key:∀ (d i:Nat) (o:List UInt8),o.length≤3 * i+1→i+d=l.length→Go.L.run (FO l) (o,(i:Int))=some (o++(l.drop i).flatMap Ww++[39]):=by
  intro d
  induction d with
  | zero=>
   intro i o ho hi;rw [List.drop_eq_nil_of_le (by omega)];refine B2 (m:=some _) ?_;unfold FO Ld;simp only;rw [if_neg (by omega),Aw (by constructor <;> simp <;> omega)];simp
  | succ d ih=>
   intro i o ho hi;have hg:l.getD i default=l[i]:=by rw [List.getD_eq_getElem?_getD,List.getElem?_eq_getElem (by omega)];rfl
   have hb:FO l (o,(i:Int))=some (.inl (o++Ww l[i],((i+1:Nat):Int))):=by
    have a:∀ b:Bool,(b=true↔((32≤l[i].toNat∧l[i].toNat≤126)∧l[i].toNat≠39∧l[i].toNat≠92))→GG l o (i:Int) b=some (.inl (o++Ww l[i],((i+1:Nat):Int))):=fun b hb=>by
     have hc:l[i].toNat<256:=UInt8.toNat_lt _;unfold GG Ww;rw [Int.toNat_natCast,hg]
     by_cases h:b=true
     ·rw [if_pos h,if_pos (hb.1 h),Aw ⟨by omega,by omega⟩,Aw (by constructor <;> simp <;> omega),Aw (by constructor <;> omega)]
      rfl
     ·rw [if_neg h,if_neg (fun e=>h (hb.2 e)),Aw ⟨by omega,by omega⟩,Aw ⟨by omega,by omega,by omega⟩];rw [show((l[i].toNat:Nat):Int) / 16=((l[i].toNat / 16:Nat):Int) by omega,PW (by omega),Option.bind_some,Aw ⟨by omega,by omega⟩,Aw ⟨by omega,by omega,by omega⟩];rw [show((l[i].toNat:Nat):Int) % 16=((l[i].toNat % 16:Nat):Int) by omega,PW (by omega),Option.bind_some,Aw (by constructor <;> simp <;> omega),Aw (by constructor <;> omega)]
      rfl
    unfold FO;simp only;rw [if_pos (by omega),Aw ⟨by omega,by omega⟩,Aw ⟨by omega,by omega⟩,Aw ⟨by omega,by omega⟩,Int.toNat_natCast,hg]
    by_cases c:(32:Int)≤(l[i].toNat:Int)∧(l[i].toNat:Int)≤126
    ·rw [if_pos c]
     by_cases h2:(l[i].toNat:Int)=39
     ·rw [if_pos h2,a false (by simp;omega)]
     ·rw [if_neg h2,a _ (by simp;omega)]
    ·rw [if_neg c,a false (by simp;omega)]
   have:=(Tl l[i]).2;rw [BK hb,ih (i+1) _ (by rw [List.length_append];omega) (by omega),List.drop_eq_getElem_cons (by omega:i<l.length),List.flatMap_cons];simp
 exact key l.length 0 [39] (by simp) (by omega)
theorem Su{l:List UInt8}(hl:l.length≤1000000000):Gj l=some (quo l):=by
 unfold Gj Iw
 have key:∀ (d i:Nat) (o:List UInt8),o.length≤3 * i+1→i+d=l.length→Go.L.run (CP l) (o,(i:Int))=some (o++(l.drop i).flatMap Ww++[39]):=by
  intro d
  induction d with
  | zero=>
   intro i o ho hi;rw [List.drop_eq_nil_of_le (by omega)];refine B2 (m:=some _) ?_;unfold CP GD;simp only;rw [if_neg (by omega),Aw (by constructor <;> simp <;> omega)];simp
  | succ d ih=>
   intro i o ho hi;have hg:l.getD i default=l[i]:=by rw [List.getD_eq_getElem?_getD,List.getElem?_eq_getElem (by omega)];rfl
   have hb:CP l (o,(i:Int))=some (.inl (o++Ww l[i],((i+1:Nat):Int))):=by
    have hc:l[i].toNat<256:=UInt8.toNat_lt _
    have b:(l[i] >>> (4:UInt8)).toNat=l[i].toNat / 16:=by
     have:∀ n:Fin 256,(UInt8.ofNat n.val >>> (4:UInt8)).toNat=n.val / 16:=by decide +kernel
     have h:=this ⟨l[i].toNat,hc⟩
     rwa [UInt8.ofNat_toNat] at h
    have c:(l[i] &&& (15:UInt8)).toNat=l[i].toNat % 16:=by
     have:∀ n:Fin 256,(UInt8.ofNat n.val &&& (15:UInt8)).toNat=n.val % 16:=by decide +kernel
     have h:=this ⟨l[i].toNat,hc⟩
     rwa [UInt8.ofNat_toNat] at h
    unfold CP Ww;simp only;rw [if_pos (by omega),Aw ⟨by omega,by omega⟩,Int.toNat_natCast,hg,b,c]
    by_cases a:(32≤l[i].toNat∧l[i].toNat≤126)∧l[i].toNat≠39∧l[i].toNat≠92
    ·rw [if_neg (by omega),if_pos a,Aw (by constructor <;> simp <;> omega),Aw (by constructor <;> omega)]
     rfl
    ·rw [if_pos (by omega),if_neg a,Aw ⟨by omega,by simp;omega⟩,Aw ⟨by omega,by simp;omega⟩,Aw (by constructor <;> simp <;> omega),Aw (by constructor <;> omega)]
     rfl
   have:=(Tl l[i]).2;rw [BK hb,ih (i+1) _ (by rw [List.length_append];omega) (by omega),List.drop_eq_getElem_cons (by omega:i<l.length),List.flatMap_cons];simp
 exact key l.length 0 [39] (by simp) (by omega)
end Go.Proofs.YtekmbcbgknmhiaaGreatDoor
namespace Go.Proofs.YtekmbcbgknmhiaaGreatDoor
open Go Go.L
theorem O8{n:Int}(hn:BJ n):I1 n=some (Lib.itoa n):=by
 unfold I1
 by_cases a:n=0
 ·subst a;rw [if_pos rfl];exact congrArg some (by rw [Lib.itoa,if_neg (by omega),Lib.decDigits,dif_pos (by decide)];rfl)
 rw [if_neg a];unfold MH
 have fin:∀ l:List UInt8,l.length≤30→Go.L.run (DW n) (l,0)=some ((if n<0 then[45] else[])++l):=fun l hl=>by
  refine B2 (m:=some _) ?_;unfold DW Kr;simp only;rw [if_pos trivial]
  by_cases hn:n<0
  ·rw [if_pos hn,if_pos hn,Aw (by constructor <;> simp <;> omega)]
  ·rw [if_neg hn,if_neg hn]
   rfl
 have key:∀ (k:Nat) (s:Int) (l:List UInt8),s.natAbs<10 ^ k→l.length+k≤30→BJ s→(s=0→l≠[])→Go.L.run (DW n) (l,s)=some ((if n<0 then[45] else[])++((if s=0 then[] else Lib.decDigits s.natAbs)++l)):=by
  intro k
  induction k with
  | zero=>
   intro s l hs hl hi _;obtain rfl:s=0:=by omega
   rw [fin l (by omega),if_pos rfl]
   rfl
  | succ k ih=>
   intro s l hs hl hi _
   by_cases hz:s=0
   ·subst hz;rw [fin l (by omega),if_pos rfl]
    rfl
   ·have hb:DW n (l,s)=some (.inl ([UInt8.ofNat (48+s.natAbs % 10)]++l,Int.tdiv s 10)):=by
     have b:∀ d:Int,d=((s.natAbs % 10:Nat):Int)→Hp l s d=some (.inl ([UInt8.ofNat (48+s.natAbs % 10)]++l,Int.tdiv s 10)):=fun d hd=>by
      unfold Hp;rw [Aw (by constructor <;> omega),Aw (by constructor <;> simp <;> omega),Aw ⟨hi.1,hi.2,by decide⟩]
      have:u8 (48+d)=UInt8.ofNat (48+s.natAbs % 10):=by
       unfold u8
       congr 1
       omega
      rw [this]
     unfold DW;simp only;rw [if_neg hz,Aw ⟨hi.1,hi.2,by decide⟩]
     have hm:Int.tmod s 10=if 0≤s then((s.natAbs % 10:Nat):Int) else -((s.natAbs % 10:Nat):Int):=by
      split
      ·rw [Int.tmod_eq_emod_of_nonneg (by assumption)];omega
      ·rw [show s = -(-s) by omega,Int.neg_tmod,Int.tmod_eq_emod_of_nonneg (by omega)];omega
     rw [hm]
     split
     ·split
      ·omega
      ·exact b _ rfl
     ·split
      ·rw [Aw (by constructor <;> omega)];exact b _ (by omega)
      ·exact b _ (by omega)
    have hd:(Int.tdiv s 10).natAbs=s.natAbs / 10:=by rw [Int.natAbs_tdiv];rfl
    have hp:10 ^ (k+1)=10 * 10 ^ k:=by rw [Nat.pow_succ,Nat.mul_comm]
    have e:=hi;rw [BK hb,ih _ _ (by rw [hd];omega) (by simp;omega) (by constructor <;> omega) (by simp),if_neg hz]
    congr 2
    have hdd:Lib.decDigits s.natAbs=if h:s.natAbs<10 then[UInt8.ofNat (48+s.natAbs)] else Lib.decDigits (s.natAbs / 10)++[UInt8.ofNat (48+s.natAbs % 10)]:=by rw [Lib.decDigits]
    rw [hdd]
    by_cases c:s.natAbs<10
    ·rw [dif_pos c,if_pos (by omega),Nat.mod_eq_of_lt c]
     rfl
    ·rw [dif_neg c,if_neg (by omega),hd];simp
 rw [key 19 n [] (by have:=hn.1;have:=hn.2;omega) (by simp) hn (fun h=>absurd h a),if_neg a,List.append_nil];unfold Lib.itoa
 split
 ·rfl
 ·rw [show n.natAbs=n.toNat by omega];rfl
theorem Pb{n:Int}(hn:BJ n):(Lib.itoa n).length≤30:=by
 have key:∀ (k u:Nat),u<10 ^ (k+1)→(Lib.decDigits u).length≤k+1:=by
  intro k
  induction k with
  | zero=>intro u h;rw [Lib.decDigits,dif_pos (by simpa using h)];simp
  | succ k ih=>
   intro u h;rw [Lib.decDigits]
   split
   ·simp
   ·have:10 ^ (k+1+1)=10 * 10 ^ (k+1):=by rw [Nat.pow_succ,Nat.mul_comm]
    have:=ih (u / 10) (by omega);simp;omega
 unfold Lib.itoa;have a:=hn.1;have h2:=hn.2
 split
 ·have:=key 18 n.natAbs (by omega);simp;omega
 ·have:=key 18 n.toNat (by omega);omega
end Go.Proofs.YtekmbcbgknmhiaaGreatDoor
end
