/- Texts of a claim, merged. -/
import Derived.Test.YtgaljodghpgdmaaGreatDoorLa5
import Derived.KernelRfl
open Option renaming some->TI
open _root_.Go.Proofs.Tryz renaming underlying27→Vv,underlying28→Xe,underlying23→Jk,underlying24→LS,underlying25→U5,underlying35→Ag9,underlying37→Sf,underlying39→QW,underlying47→VV,underlying52→Vz,underlying56→LO,underlying59→RO,underlying126→IL,underlying132→RF
open Option renaming bind->Xd,map->Sh
open List renaming replicate->Xk
set_option linter.defProp false
set_option linter.unusedVariables false
set_option linter.unusedSimpArgs false
set_option linter.unusedSectionVars false
noncomputable section
namespace Go.Proofs.YtgaljodghpgdmaaGreatDoor
open Go Go.E Go.RowKit Go.L
set_option maxHeartbeats 1000000
set_option maxRecDepth 10000
open _root_.Go.Proofs.Tryz
def C5(a0 a1:Int):Option Z7:=
 TI ((a0,a1))
section
variable(w:World)(H:PH)(hH:Le H (hp w)) include hH
theorem Cp{a0 a1:Int}{r:Z7}(h:C5 a0 a1=TI r):
  Pd 14 [No a0,No a1] w (λv w'=>v=.agg #[No r.1,No r.2]):=by
 refine Ai 8 [(0,No a0),(1,No a1)] func14 Z λhL=>A5<|Aq Av.e Z hL λe f b c _=>Af ?_;refine AJ (A8 (λ_=>Mr _ _ _))<|Ac 0 Z b Z λg a d=>Af ?_
 cases h
 refine Bz (.cell Z QW Z Av.e (box_pT 0 a Z)) ⟨a.ext,Z⟩
def Ki(a0:Int):Option Bool:=
 TI (decide ((1<=a0)/\(a0<=7)))
theorem M5{a0:Int}{r:Bool}(h:Ki a0=TI r):
  Pd 64 [No a0] w (λv w'=>v=.bool r):=by
 refine Ai 9 [(0,No a0)] func64 Z λhL=>Af ?_;refine NC 2 2 Z Z Z Z Z Z<|Bu
end
def N3(a0:Qv)(a1:Qv):Option (Bool×Qv):=
 TI (decide (a0.f.1=a1.f.1),a1)
def Qz5{a w:World}{H:PH}(hH:Le H (hp a)){O:List Bv}{a0 a1:Qv}{va0_1 va0_3 va0_6:Value}{ba1:Nat}{va1_1 va1_3 va1_6:Value}(hL:AB a (Ha [.box ba1 [No a1.f.1,va1_1,Pg a1.f.2.2.1,va1_3,No a1.f.2.2.2.2.1,No a1.f.2.2.2.2.2.1,va1_6] 27] O) w)(_ha0_1:As .st (gz H a w (Ha [.box ba1 [No a1.f.1,va1_1,Pg a1.f.2.2.1,va1_3,No a1.f.2.2.2.2.1,No a1.f.2.2.2.2.2.1,va1_6] 27] O)) va0_1 (a0.f.2.1))(_ha0_3:As .byte (gz H a w (Ha [.box ba1 [No a1.f.1,va1_1,Pg a1.f.2.2.1,va1_3,No a1.f.2.2.2.2.1,No a1.f.2.2.2.2.2.1,va1_6] 27] O)) va0_3 (a0.f.2.2.2.1))(_ha0_6:As .AN (gz H a w (Ha [.box ba1 [No a1.f.1,va1_1,Pg a1.f.2.2.1,va1_3,No a1.f.2.2.2.2.1,No a1.f.2.2.2.2.2.1,va1_6] 27] O)) va0_6 (a0.f.2.2.2.2.2.2))(i:As .st (gz H a w (Ha [.box ba1 [No a1.f.1,va1_1,Pg a1.f.2.2.1,va1_3,No a1.f.2.2.2.2.1,No a1.f.2.2.2.2.2.1,va1_6] 27] O)) va1_1 (a1.f.2.1))(j:As .byte (gz H a w (Ha [.box ba1 [No a1.f.1,va1_1,Pg a1.f.2.2.1,va1_3,No a1.f.2.2.2.2.1,No a1.f.2.2.2.2.2.1,va1_6] 27] O)) va1_3 (a1.f.2.2.2.1))(k:As .AN (gz H a w (Ha [.box ba1 [No a1.f.1,va1_1,Pg a1.f.2.2.1,va1_3,No a1.f.2.2.2.2.1,No a1.f.2.2.2.2.2.1,va1_6] 27] O)) va1_6 (a1.f.2.2.2.2.2.2)){r:Bool×Qv}(h:N3 a0 a1=TI r):
  Ok prog 200 [.agg #[No a0.f.1,va0_1,Pg a0.f.2.2.1,va0_3,No a0.f.2.2.2.2.1,No a0.f.2.2.2.2.2.1,va0_6],SX ba1] w (λv w'=>∃(c:Value) (d:Value) (e:Value),v=.bool r.1/\AB a (Ha [.box ba1 [No r.2.f.1,c,Pg r.2.f.2.2.1,d,No r.2.f.2.2.2.2.1,No r.2.f.2.2.2.2.2.1,e] 27] O) w'/\Le (fz w (Ha [.box ba1 [No a1.f.1,va1_1,Pg a1.f.2.2.1,va1_3,No a1.f.2.2.2.2.1,No a1.f.2.2.2.2.2.1,va1_6] 27] O)) (fz w' (Ha [.box ba1 [No r.2.f.1,c,Pg r.2.f.2.2.1,d,No r.2.f.2.2.2.2.1,No r.2.f.2.2.2.2.2.1,e] 27] O))/\As .st (gz H a w' (Ha [.box ba1 [No r.2.f.1,c,Pg r.2.f.2.2.1,d,No r.2.f.2.2.2.2.1,No r.2.f.2.2.2.2.2.1,e] 27] O)) c (r.2.f.2.1)/\As .byte (gz H a w' (Ha [.box ba1 [No r.2.f.1,c,Pg r.2.f.2.2.1,d,No r.2.f.2.2.2.2.1,No r.2.f.2.2.2.2.2.1,e] 27] O)) d (r.2.f.2.2.2.1)/\As .AN (gz H a w' (Ha [.box ba1 [No r.2.f.1,c,Pg r.2.f.2.2.1,d,No r.2.f.2.2.2.2.1,No r.2.f.2.2.2.2.2.1,e] 27] O)) e (r.2.f.2.2.2.2.2.2)):=by
 refine Cx (n:=9) [(0,.agg #[No a0.f.1,va0_1,Pg a0.f.2.2.1,va0_3,No a0.f.2.2.2.2.1,No a0.f.2.2.2.2.2.1,va0_6]),(1,(SX ba1))] func200 Z Z Z Z ?_;have hT:=Le.refl (fz w (Ha [.box ba1 [No a1.f.1,va1_1,Pg a1.f.2.2.1,va1_3,No a1.f.2.2.2.2.1,No a1.f.2.2.2.2.2.1,va1_6] 27] O));have b:=hL.rG H;refine A5<|B6 (t:=27) Z Z hL λo p l g _=>Af ?_
 cases h
 refine AD Z ?_;have m:=l.dT 0 Z;have b:=b.trans (Aa (g.trans (fz_dT 0 Z)));have hT:=hT.trans (g.trans (fz_dT 0 Z));exact⟨va1_1,va1_3,va1_6,Z,m,hT,(i.mono b),(j.mono b),(k.mono b)⟩
def Abp(a:Int)(b:List Wl)(c:Wl)(d:Wl)(e f:Int)(g:List Qv):Option (Int×Qv):=
 TI ((-1),(Qv.mk a b c d e f g))
def Be(a0:List Qv):Int×(List Wl)×Wl×Wl×Int×Int×(List Qv)×Int->Option ((Int×(List Wl)×Wl×Wl×Int×Int×(List Qv)×Int)⊕(Int×Qv)):=λ⟨c,d,e,g,h,i,j,a⟩=>
 if a<(a0.length:Int)then Ay (0<=a/\a<(a0.length:Int)) (Xd (N3 (a0.getD a.toNat Qq7) (Qv.mk c d e g h i j)) (λb=>if b.1 then Sh Sum.inr (TI (a,b.2))else Ay (AL (a+1)) (TI (Sum.inl (b.2.f.1,b.2.f.2.1,b.2.f.2.2.1,b.2.f.2.2.2.1,b.2.f.2.2.2.2.1,b.2.f.2.2.2.2.2.1,b.2.f.2.2.2.2.2.2,(a+1))))))else Sh Sum.inr (Abp c d e g h i j)
def E9(a0:List Qv)(s:Int×(List Wl)×Wl×Wl×Int×Int×(List Qv)×Int):Option (Int×Qv):=Go.L.run (Be a0) s
def Dd(a0:List Qv)(a1_c0:Qv):Option (Int×Qv):=
 (E9 a0) (a1_c0.f.1,a1_c0.f.2.1,a1_c0.f.2.2.1,a1_c0.f.2.2.2.1,a1_c0.f.2.2.2.2.1,a1_c0.f.2.2.2.2.2.1,a1_c0.f.2.2.2.2.2.2,0)
def Aj2{c w:World}{H:PH}(hH:Le H (hp c)){O:List Bv}{a0:List Qv}{a1_c0:Qv}{va0:Value}{ba1_c0:Nat}{va1_c0_1 va1_c0_3 va1_c0_6:Value}(hL:AB c (Ha [.box ba1_c0 [No a1_c0.f.1,va1_c0_1,Pg a1_c0.f.2.2.1,va1_c0_3,No a1_c0.f.2.2.2.2.1,No a1_c0.f.2.2.2.2.2.1,va1_c0_6] 27] O) w)(bd:As .AN (gz H c w (Ha [.box ba1_c0 [No a1_c0.f.1,va1_c0_1,Pg a1_c0.f.2.2.1,va1_c0_3,No a1_c0.f.2.2.2.2.1,No a1_c0.f.2.2.2.2.2.1,va1_c0_6] 27] O)) va0 a0)(ha1_c0_1:As .st (gz H c w (Ha [.box ba1_c0 [No a1_c0.f.1,va1_c0_1,Pg a1_c0.f.2.2.1,va1_c0_3,No a1_c0.f.2.2.2.2.1,No a1_c0.f.2.2.2.2.2.1,va1_c0_6] 27] O)) va1_c0_1 (a1_c0.f.2.1))(ha1_c0_3:As .byte (gz H c w (Ha [.box ba1_c0 [No a1_c0.f.1,va1_c0_1,Pg a1_c0.f.2.2.1,va1_c0_3,No a1_c0.f.2.2.2.2.1,No a1_c0.f.2.2.2.2.2.1,va1_c0_6] 27] O)) va1_c0_3 (a1_c0.f.2.2.2.1))(ha1_c0_6:As .AN (gz H c w (Ha [.box ba1_c0 [No a1_c0.f.1,va1_c0_1,Pg a1_c0.f.2.2.1,va1_c0_3,No a1_c0.f.2.2.2.2.1,No a1_c0.f.2.2.2.2.2.1,va1_c0_6] 27] O)) va1_c0_6 (a1_c0.f.2.2.2.2.2.2)){r:Int×Qv}(h:Dd a0 a1_c0=TI r):
  Ok prog 257 [va0,.func (.func 200) #[] #[SX ba1_c0]] w (λv w'=>∃(u2:Value) (u4:Value) (u7:Value),v=No r.1/\AB c (Ha [.box ba1_c0 [No r.2.f.1,u2,Pg r.2.f.2.2.1,u4,No r.2.f.2.2.2.2.1,No r.2.f.2.2.2.2.2.1,u7] 27] O) w'/\Le (fz w (Ha [.box ba1_c0 [No a1_c0.f.1,va1_c0_1,Pg a1_c0.f.2.2.1,va1_c0_3,No a1_c0.f.2.2.2.2.1,No a1_c0.f.2.2.2.2.2.1,va1_c0_6] 27] O)) (fz w' (Ha [.box ba1_c0 [No r.2.f.1,u2,Pg r.2.f.2.2.1,u4,No r.2.f.2.2.2.2.1,No r.2.f.2.2.2.2.2.1,u7] 27] O))/\As .st (gz H c w' (Ha [.box ba1_c0 [No r.2.f.1,u2,Pg r.2.f.2.2.1,u4,No r.2.f.2.2.2.2.1,No r.2.f.2.2.2.2.2.1,u7] 27] O)) u2 (r.2.f.2.1)/\As .byte (gz H c w' (Ha [.box ba1_c0 [No r.2.f.1,u2,Pg r.2.f.2.2.1,u4,No r.2.f.2.2.2.2.1,No r.2.f.2.2.2.2.2.1,u7] 27] O)) u4 (r.2.f.2.2.2.1)/\As .AN (gz H c w' (Ha [.box ba1_c0 [No r.2.f.1,u2,Pg r.2.f.2.2.1,u4,No r.2.f.2.2.2.2.1,No r.2.f.2.2.2.2.2.1,u7] 27] O)) u7 (r.2.f.2.2.2.2.2.2)):=by
 refine Cx (n:=19) [(0,va0),(1,.func (.func 200) #[] #[SX ba1_c0])] func257 Z Z Z Z ?_;have hT:=Le.refl (fz w (Ha [.box ba1_c0 [No a1_c0.f.1,va1_c0_1,Pg a1_c0.f.2.2.1,va1_c0_3,No a1_c0.f.2.2.2.2.1,No a1_c0.f.2.2.2.2.2.1,va1_c0_6] 27] O));have ai:=hL.rG H;refine Bx 1 Z<|AA (Int×(List Wl)×Wl×Wl×Int×Int×(List Qv)×Value×Value×Value) (λ⟨aj,ak,al,am,an,ao,ap,i,j,k⟩=>[]) (λ⟨aj,ak,al,am,an,ao,ap,i,j,k⟩ wr=>Cd c (Ha [.box ba1_c0 [No aj,i,Pg al,j,No an,No ao,k] 27] O) wr λOz=>As .st (gz H c wr Oz) i ak/\As .byte (gz H c wr Oz) j am/\As .AN (gz H c wr Oz) k ap/\Le (fz w (Ha [.box ba1_c0 [No a1_c0.f.1,va1_c0_1,Pg a1_c0.f.2.2.1,va1_c0_3,No a1_c0.f.2.2.2.2.1,No a1_c0.f.2.2.2.2.2.1,va1_c0_6] 27] O)) (fz wr Oz)/\Abp aj ak al am an ao ap=TI r) ?_ ?_
 ·refine Af ?_;refine A4 ?_;obtain⟨a3,h⟩:=Ax h;refine AF (Int×(List Wl)×Wl×Wl×Int×Int×(List Qv)×Int×Value×Value×Value×Nat) (λ⟨l,m,o,p,q,s,t,a,d,e,g,n⟩=>[(0,va0),(1,.func (.func 200) #[] #[SX ba1_c0]),(7,No (a0.length:Int)),(8,No a)]) (λ⟨l,m,o,p,q,s,t,a,d,e,g,n⟩ wr=>Cd c (Ha [.box ba1_c0 [No l,d,Pg o,e,No q,No s,g] 27] O) wr λOz=>As .AN (gz H c wr Oz) va0 a0/\As .st (gz H c wr Oz) d m/\As .byte (gz H c wr Oz) e p/\As .AN (gz H c wr Oz) g t/\Le (fz w (Ha [.box ba1_c0 [No a1_c0.f.1,va1_c0_1,Pg a1_c0.f.2.2.1,va1_c0_3,No a1_c0.f.2.2.2.2.1,No a1_c0.f.2.2.2.2.2.1,va1_c0_6] 27] O)) (fz wr Oz)/\D6 (Be a0) n (l,m,o,p,q,s,t,a)=TI r) (λ⟨l,m,o,p,q,s,t,a,d,e,g,n⟩=>n) (a1_c0.f.1,a1_c0.f.2.1,a1_c0.f.2.2.1,a1_c0.f.2.2.2.1,a1_c0.f.2.2.2.2.1,a1_c0.f.2.2.2.2.2.1,a1_c0.f.2.2.2.2.2.2,0,va1_c0_1,va1_c0_3,va1_c0_6,a3) Z ⟨hL,(bd.mono ai),(ha1_c0_1.mono ai),(ha1_c0_3.mono ai),(ha1_c0_6.mono ai),hT,h⟩ ?_
  rintro⟨l,m,o,p,q,s,t,a,d,e,g,nn71⟩ be ⟨x,ab,aq,ar,au,hT,h⟩;obtain⟨a3,bh,rfl,h,af⟩:=Aw h;have b:=x.rG H;refine AR ?_;refine Ar h ?_ ?_<;>intro a9 h
  ·refine AR ?_;refine Ag h λa4 h=>A1 (ab.mono b) a.toNat (BP a4) (An a4) ?_;rintro bi _ e76t0 ba;obtain⟨_,_,rfl,rfl,⟨_,_,rfl,⟨e76v1,rfl,e76h1⟩,⟨_,_,rfl,rfl,⟨_,_,rfl,⟨e76v3,rfl,e76h3⟩,⟨_,_,rfl,rfl,⟨_,_,rfl,rfl,⟨e76v6,rfl,e76h6⟩⟩⟩⟩⟩⟩⟩:=Go.E.Rp.C2 e76t0;refine AJ (AU ba (Ae x))<|Ah h λu bb h=>DR Z Z (Qz5 (a0:=(a0.getD a.toNat Qq7)) (a1:=(Qv.mk l m o p q s t)) (O:=(Ha [] O)) hH x e76h1 e76h3 e76h6 (aq.mono b) (ar.mono b) (au.mono b) bb) ?_;rintro _ bj ⟨av,aw,ax,rfl,y,z,ac,ad,ae⟩;refine Ap<|AH h ?_ ?_<;>intro bc h
   ·have ag:=y.rG H;have h:=AX.out h af;refine Af ?_
    cases h
    refine AD Z ?_;have hT:=hT.trans z;exact⟨av,aw,ax,Z,y,hT,(ac.mono ag),(ad.mono ag),(ae.mono ag)⟩
   have aa:=y.rG H;refine Ag h λbf h=>Af ?_;have h:=AX.again h af;have b:=b.trans (Aa z);have hT:=hT.trans z;refine Ak (u.2.f.1,u.2.f.2.1,u.2.f.2.2.1,u.2.f.2.2.2.1,u.2.f.2.2.2.2.1,u.2.f.2.2.2.2.2.1,u.2.f.2.2.2.2.2.2,(a+1),av,aw,ax,a3) Z ⟨y,((ab.mono b).mono aa),(ac.mono aa),(ad.mono aa),(ae.mono aa),hT,h⟩
  have h:=AX.out h af;refine Af ?_;refine Am (l,m,o,p,q,s,t,d,e,g) ⟨x,(aq.mono b),(ar.mono b),(au.mono b),hT,h⟩
 rintro⟨aj,ak,al,am,an,ao,ap,i,j,k⟩ bg ⟨a5,a6,a7,a8,hT,h⟩;have ah:=a5.rG H;refine Af ?_
 cases h
 refine AD Z ⟨i,j,k,Z,a5,hT,(a6.mono ah),(a7.mono ah),(a8.mono ah)⟩
def AM(a0:List Qv)(a1_c0:Qv):Option (Bool×Qv):=
 Xd (Dd a0 a1_c0) (λa=>TI (decide (0<=a.1),a.2))
def AZ{a w:World}{H:PH}(hH:Le H (hp a))(O:List Bv)(a0:List Qv)(a1_c0:Qv){va0:Value}{ba1_c0:Nat}{va1_c0_1 va1_c0_3 va1_c0_6:Value}(hL:AB a (Ha [.box ba1_c0 [No a1_c0.f.1,va1_c0_1,Pg a1_c0.f.2.2.1,va1_c0_3,No a1_c0.f.2.2.2.2.1,No a1_c0.f.2.2.2.2.2.1,va1_c0_6] 27] O) w)(p:As .AN (gz H a w (Ha [.box ba1_c0 [No a1_c0.f.1,va1_c0_1,Pg a1_c0.f.2.2.1,va1_c0_3,No a1_c0.f.2.2.2.2.1,No a1_c0.f.2.2.2.2.2.1,va1_c0_6] 27] O)) va0 a0)(ha1_c0_1:As .st (gz H a w (Ha [.box ba1_c0 [No a1_c0.f.1,va1_c0_1,Pg a1_c0.f.2.2.1,va1_c0_3,No a1_c0.f.2.2.2.2.1,No a1_c0.f.2.2.2.2.2.1,va1_c0_6] 27] O)) va1_c0_1 (a1_c0.f.2.1))(ha1_c0_3:As .byte (gz H a w (Ha [.box ba1_c0 [No a1_c0.f.1,va1_c0_1,Pg a1_c0.f.2.2.1,va1_c0_3,No a1_c0.f.2.2.2.2.1,No a1_c0.f.2.2.2.2.2.1,va1_c0_6] 27] O)) va1_c0_3 (a1_c0.f.2.2.2.1))(ha1_c0_6:As .AN (gz H a w (Ha [.box ba1_c0 [No a1_c0.f.1,va1_c0_1,Pg a1_c0.f.2.2.1,va1_c0_3,No a1_c0.f.2.2.2.2.1,No a1_c0.f.2.2.2.2.2.1,va1_c0_6] 27] O)) va1_c0_6 (a1_c0.f.2.2.2.2.2.2)){r:Bool×Qv}(h:AM a0 a1_c0=TI r):
  Ok prog 199 [va0,.func (.func 200) #[] #[SX ba1_c0]] w (λv w'=>∃(c:Value) (d:Value) (e:Value),v=.bool r.1/\AB a (Ha [.box ba1_c0 [No r.2.f.1,c,Pg r.2.f.2.2.1,d,No r.2.f.2.2.2.2.1,No r.2.f.2.2.2.2.2.1,e] 27] O) w'/\Le (fz w (Ha [.box ba1_c0 [No a1_c0.f.1,va1_c0_1,Pg a1_c0.f.2.2.1,va1_c0_3,No a1_c0.f.2.2.2.2.1,No a1_c0.f.2.2.2.2.2.1,va1_c0_6] 27] O)) (fz w' (Ha [.box ba1_c0 [No r.2.f.1,c,Pg r.2.f.2.2.1,d,No r.2.f.2.2.2.2.1,No r.2.f.2.2.2.2.2.1,e] 27] O))/\As .st (gz H a w' (Ha [.box ba1_c0 [No r.2.f.1,c,Pg r.2.f.2.2.1,d,No r.2.f.2.2.2.2.1,No r.2.f.2.2.2.2.2.1,e] 27] O)) c (r.2.f.2.1)/\As .byte (gz H a w' (Ha [.box ba1_c0 [No r.2.f.1,c,Pg r.2.f.2.2.1,d,No r.2.f.2.2.2.2.1,No r.2.f.2.2.2.2.2.1,e] 27] O)) d (r.2.f.2.2.2.1)/\As .AN (gz H a w' (Ha [.box ba1_c0 [No r.2.f.1,c,Pg r.2.f.2.2.1,d,No r.2.f.2.2.2.2.1,No r.2.f.2.2.2.2.2.1,e] 27] O)) e (r.2.f.2.2.2.2.2.2)):=by
 refine Cx (n:=9) [(0,va0),(1,.func (.func 200) #[] #[SX ba1_c0])] func199 Z Z Z Z ?_;have hT:=Le.refl (fz w (Ha [.box ba1_c0 [No a1_c0.f.1,va1_c0_1,Pg a1_c0.f.2.2.1,va1_c0_3,No a1_c0.f.2.2.2.2.1,No a1_c0.f.2.2.2.2.2.1,va1_c0_6] 27] O));have b:=hL.rG H;refine Af ?_;refine Ah h λt q h=>D5 (Aj2 (a0:=a0) (a1_c0:=a1_c0) (O:=(Ha [] O)) hH hL (p.mono b) (ha1_c0_1.mono b) (ha1_c0_3.mono b) (ha1_c0_6.mono b) q) ?_;rintro _ u ⟨k,l,m,rfl,s,o,g,i,j⟩;refine Af ?_
 cases h
 refine AD Z ?_;have hT:=hT.trans o;exact⟨k,l,m,Z,s,hT,g,i,j⟩
def Ct(a0:Qv)(d:Wl)(o:Wl)(e g b c a:Int):Option Bool:=
 if((decide ((a0.f.2.1.length:Int)<b))||(decide (c<(a0.f.2.1.length:Int))))then(if((decide ((a0.f.2.1.length:Int)<b))||(decide (c<(a0.f.2.1.length:Int))))then TI false else(if !((decide (a0.f.1=8))||(decide (a0.f.1=9)))then TI true else Xd (AM a0.f.2.2.2.2.2.2 a0) (λh=>TI (!h.1))))else(if(a0.f.2.2.2.2.2.2.length:Int)<a then(if(a0.f.2.2.2.2.2.2.length:Int)<a then TI false else(if !((decide (a0.f.1=8))||(decide (a0.f.1=9)))then TI true else Xd (AM a0.f.2.2.2.2.2.2 a0) (λi=>TI (!i.1))))else(if(bif !((decide (a0.f.1=8))||(decide (a0.f.1=9)))then decide (a<(a0.f.2.2.2.2.2.2.length:Int))else false)then(if(bif !((decide (a0.f.1=8))||(decide (a0.f.1=9)))then decide (a<(a0.f.2.2.2.2.2.2.length:Int))else false)then TI false else(if !((decide (a0.f.1=8))||(decide (a0.f.1=9)))then TI true else Xd (AM a0.f.2.2.2.2.2.2 a0) (λj=>TI (!j.1))))else(if d=a0.f.2.2.1 then(if e=a0.f.2.2.2.2.1 then(if g=a0.f.2.2.2.2.2.1 then(if(o.length:Int)=(a0.f.2.2.2.1.length:Int)then(if !((decide (a0.f.1=8))||(decide (a0.f.1=9)))then TI true else Xd (AM a0.f.2.2.2.2.2.2 a0) (λk=>TI (!k.1)))else TI false)else(if g=a0.f.2.2.2.2.2.1 then(if !((decide (a0.f.1=8))||(decide (a0.f.1=9)))then TI true else Xd (AM a0.f.2.2.2.2.2.2 a0) (λl=>TI (!l.1)))else TI false))else(if e=a0.f.2.2.2.2.1 then(if !((decide (a0.f.1=8))||(decide (a0.f.1=9)))then TI true else Xd (AM a0.f.2.2.2.2.2.2 a0) (λm=>TI (!m.1)))else TI false))else(if d=a0.f.2.2.1 then(if !((decide (a0.f.1=8))||(decide (a0.f.1=9)))then TI true else Xd (AM a0.f.2.2.2.2.2.2 a0) (λn=>TI (!n.1)))else TI false))))
def MO(a0:Qv):Option Bool:=
 if a0.f.1=1 then(Ct a0) ([]:Wl) ([]) (0:Int) (0:Int) (1:Int) (1:Int) (0:Int)else(if a0.f.1=2 then(Ct a0) ([]:Wl) ([]) (0:Int) (0:Int) (2:Int) (16:Int) (0:Int)else(if a0.f.1=3 then(Ct a0) ([]:Wl) ([]) a0.f.2.2.2.2.1 (0:Int) (2:Int) (2:Int) (0:Int)else(if a0.f.1=4 then(Ct a0) ([]:Wl) a0.f.2.2.2.1 (0:Int) (0:Int) (0:Int) (0:Int) (0:Int)else(if a0.f.1=5 then(Ct a0) a0.f.2.2.1 ([]) (0:Int) (0:Int) (0:Int) (0:Int) (0:Int)else(if a0.f.1=6 then(Ct a0) a0.f.2.2.1 ([]) a0.f.2.2.2.2.1 a0.f.2.2.2.2.2.1 (0:Int) (0:Int) (0:Int)else(if a0.f.1=7 then(Ct a0) a0.f.2.2.1 a0.f.2.2.2.1 (0:Int) (0:Int) (0:Int) (0:Int) (0:Int)else(if a0.f.1=10 then(Ct a0) ([]:Wl) ([]) (0:Int) (0:Int) (0:Int) (0:Int) (1:Int)else(Ct a0) ([]:Wl) ([]) (0:Int) (0:Int) (0:Int) (0:Int) (2:Int))))))))
section
variable(w:World)(H:PH)(hH:Le H (hp w)) include hH
theorem AbE{a0:Qv}{a d b:Value}(p:As .st H a (a0.f.2.1))(o:As .byte H d (a0.f.2.2.2.1))(e:As .AN H b (a0.f.2.2.2.2.2.2)){r:Bool}(h:MO a0=TI r):
  Pd 147 [.agg #[No a0.f.1,a,Pg a0.f.2.2.1,d,No a0.f.2.2.2.2.1,No a0.f.2.2.2.2.2.1,b]] w (λv w'=>v=.bool r):=by
 refine Ai 123 [(0,.agg #[No a0.f.1,a,Pg a0.f.2.2.1,d,No a0.f.2.2.2.2.1,No a0.f.2.2.2.2.2.1,b])] func147 Z λhL=>A5<|B6 (t:=27) Z Z hL λw1 b1 c3 eb _=>Af ?_;refine AJ (A8 (λ_=>Ach _ _ p.one _ e.one _))<|Aq Bs.e Z c3 λw2 y c4 ec _=>Ac 0 Z c4 Z (a:=(AV Z (AV p.one (AV Z (AV Z (AV Z (AV Z (AV e.one JO)))))))) λw3 ac ed=>Af ?_;refine AA (Wl×Wl×Int×Int×Int×Int×Int×Value) (λ⟨j,ao,k,l,ad,ae,ah,c⟩=>[(1,(SX b1)),(3,(SX y)),(4,No ad),(5,No ae),(6,No ah)]) (λ⟨j,ao,k,l,ad,ae,ah,c⟩ wr=>Cd w [.box y [No a0.f.1,a,Pg j,c,No k,No l,b] 27,.box b1 [No a0.f.1,a,Pg a0.f.2.2.1,d,No a0.f.2.2.2.2.1,No a0.f.2.2.2.2.2.1,b] 27] wr λOz=>As .byte (gz H w wr Oz) c ao/\(Ct a0) j ao k l ad ae ah=TI r) ?_ ?_
 ·refine AR ?_;refine Ar h ?_ ?_<;>intro bz h
  ·refine Af ?_;refine Am (([]:Wl),[],0,0,1,1,0,TO) ⟨ac,(As.nil _ _),h⟩
  refine Bx 2 Z<|Ar h ?_ ?_<;>intro b0 h
  ·refine Af ?_;refine Am (([]:Wl),[],0,0,2,16,0,TO) ⟨ac,(As.nil _ _),h⟩
  refine Bx 2 Z<|Ar h ?_ ?_<;>intro b3 h
  ·refine P8 (Zt 0 5 (.tail 5)) mixed SF (λeu b4=>?_);have ar:=ac.call b4;refine Bh Z (A7 Z Vv Z DW.e) Z<|Bh Z (AG 1 Z ar Z) Z<|Br 2 Z<|Bh Z (A7 Z Vv Z DW.e) Z<|AT (λev b5=>?_);have b6:=ar.call b5;refine BW 0 Z Z Z b6 Z Z λew b7 dz=>Af ?_;refine Am (([]:Wl),[],a0.f.2.2.2.2.1,0,2,2,0,TO) ⟨b7,(As.nil _ _),h⟩
  refine Bx 2 Z<|Ar h ?_ ?_<;>intro b8 h
  ·refine Af ?_;refine BW 0 Z Z o.one ac Z Z λex b9 d0=>Af ?_;refine Am (([]:Wl),a0.f.2.2.2.1,0,0,0,0,0,d) ⟨b9,(o.mono  Ad),h⟩
  refine Bx 2 Z<|Ar h ?_ ?_<;>intro ca h
  ·refine Af ?_;refine BW 0 Z Z Z ac Z Z λey cb d1=>Af ?_;refine Am (a0.f.2.2.1,[],0,0,0,0,0,TO) ⟨cb,(As.nil _ _),h⟩
  refine Bx 2 Z<|Ar h ?_ ?_<;>intro cc h
  ·refine Ik (Ew (KZ MF)) (λz0 z=>Le (gz H w z0 [.box y [No a0.f.1,a,(Pg []),TO,No 0,No 0,b] 27,.box b1 [No a0.f.1,a,Pg a0.f.2.2.1,d,No a0.f.2.2.2.2.1,No a0.f.2.2.2.2.2.1,b] 27]) (hp z)/\z.heap[b1]? = TI (.cells [No a0.f.1,a,Pg a0.f.2.2.1,d,No a0.f.2.2.2.2.1,No a0.f.2.2.2.2.2.1,b].toArray 27 (0,0))) mixed Z (λu ez ce=>?_);have ai:=ac.call ce;have aa:=ai.rG H;refine MG ⟨aa.trans (Ae ai),ai.aT 1 Z⟩ λkI88=>Au 0 u kI88 Z (λ_ _=>A7 Z Vv Z E7.e) Z<|Au 1 u kI88 Z (λ_ hI=>JV Z hI.2 Z) Z<|Au 2 u kI88 Z (λ_ _=>A7 Z Vv Z DW.e) Z<|Au 3 u kI88 Z (λ_ hI=>JV Z hI.2 Z) Z<|Au 4 u kI88 Z (λ_ _=>A7 Z Vv Z DW.e) Z<|Au 5 u kI88 Z (λ_ hI=>JV Z hI.2 Z) Z<|Au 6 u kI88 Z (λ_ _=>A7 Z Vv Z E7.e) Z<|Jr 7 Z ?_
   refine BW 0 Z Z Z ai Z Z ?_;intro e0 am av;have aa:=aa.trans (Aa av);refine AS ⟨aa.trans (Ae am),am.aT 1 Z⟩ λkI90=>Au 8 u kI90 Z (λ_ _=>A7 Z Vv Z DW.e) Z<|Jr 9 Z<|BW 0 Z Z Z am Z Z ?_;intro e1 an aw;have aa:=aa.trans (Aa aw);refine AS ⟨aa.trans (Ae an),an.aT 1 Z⟩ λkI92=>Au 10 u kI92 Z (λ_ _=>A7 Z Vv Z DW.e) Z<|Jr 11 Z<|BW 0 Z Z Z an Z Z λe2 cf d2=>Kq<|FF<|Ow<|Am (a0.f.2.2.1,[],a0.f.2.2.2.2.1,a0.f.2.2.2.2.2.1,0,0,0,TO) ⟨cf,(As.nil _ _),h⟩
  refine Bx 2 Z<|Ar h ?_ ?_<;>intro cg h
  ·refine Ik (Ew (KZ MF)) (λz0 z=>Le (gz H w z0 [.box y [No a0.f.1,a,(Pg []),TO,No 0,No 0,b] 27,.box b1 [No a0.f.1,a,Pg a0.f.2.2.1,d,No a0.f.2.2.2.2.1,No a0.f.2.2.2.2.2.1,b] 27]) (hp z)/\z.heap[b1]? = TI (.cells [No a0.f.1,a,Pg a0.f.2.2.1,d,No a0.f.2.2.2.2.1,No a0.f.2.2.2.2.2.1,b].toArray 27 (0,0))) mixed Z (λag e3 ch=>?_);have aj:=ac.call ch;have ak:=aj.rG H;refine MG ⟨ak.trans (Ae aj),aj.aT 1 Z⟩ λkI100=>Au 0 ag kI100 Z (λ_ _=>A7 Z Vv Z E7.e) Z<|Au 1 ag kI100 Z (λ_ hI=>JV Z hI.2 Z) Z<|Au 2 ag kI100 Z (λ_ _=>A7 Z Vv Z Nu.e) Z<|Au 3 ag kI100 Z (λ_ hI=>JV Z hI.2 Z) Z<|Au 4 ag kI100 Z (λ_ _=>A7 Z Vv Z E7.e) Z<|Jr 5 Z<|BW 0 Z Z Z aj Z Z ?_;intro ee al au;have ak:=ak.trans (Aa au);refine AS ⟨ak.trans (Ae al),al.aT 1 Z⟩ λkI102=>?_
   refine Au 6 ag kI102 Z (λ_ _=>A7 Z Vv Z Nu.e) Z<|Jr 7 Z<|BW 0 Z Z o.one al Z Z λef ax c5=>Kq<|FF<|Ow<|Am (a0.f.2.2.1,a0.f.2.2.2.1,0,0,0,0,0,d) ⟨ax,(o.mono  Ad),h⟩
  refine Bx 2 Z<|Ar h ?_ ?_<;>intro ay h
  ·refine Af ?_;refine Am (([]:Wl),[],0,0,0,0,1,TO) ⟨ac,(As.nil _ _),h⟩
  refine Af ?_;refine Am (([]:Wl),[],0,0,0,0,2,TO) ⟨ac,(As.nil _ _),h⟩
 rintro⟨j,ao,k,l,ad,ae,ah,c⟩ ab ⟨x,d3,h⟩;refine Af ?_;refine Gs 4 68 (.bool ((decide (a0.f.1=8))||(decide (a0.f.1=9)))) (λap=>?_) ?_
 ·refine Cu (s:=64) Z (λm=>?_) (λm=>?_)
  ·iterate 3 refine AW m ?_
   refine sF m Z<|ap.to 3 (T3 m) Z Z
  refine Aj m<|sA Z Vv Z DW.e<|Aj m<|sB 1 Z x Z<|Aj m<|sI Z<|sG m Z<|ap.to 3 (T5 m) Z Z
 refine AR ?_;refine Gs 6 81 (.bool ((decide ((a0.f.2.1.length:Int)<ad))||(decide (ae<(a0.f.2.1.length:Int))))) (λaq=>?_) ?_
 ·refine Cu (s:=75) Z (λg=>?_) (λg=>?_)
  ·iterate 5 refine AW g ?_
   refine sF g Z<|aq.to 5 (T3 g) Z Z
  refine Aj g<|sA Z Vv Z Up.e<|Aj g<|sB 1 Z x Z<|Aj g<|sE p<|Aj g<|sI Z<|Aj g<|sI Z<|sG g Z<|aq.to 5 (T5 g) Z Z
 refine BJ 1 Z<|AH h ?_ ?_<;>intro az h
 ·refine Af ?_;refine AH h ?_ ?_<;>intro a1 h
  ·exact Bu
  refine Af ?_;refine Cf 116 h ?_ ?_<;>intro a2 h
  ·exact Bu
  refine Af ?_;have a3:AB w [.box b1 [No a0.f.1,a,Pg a0.f.2.2.1,d,No a0.f.2.2.2.2.1,No a0.f.2.2.2.2.2.1,b] 27,.box y [No a0.f.1,a,Pg j,c,No k,No l,b] 27] ab:=x.BX [1] Z;refine Ah h λeg a4 h=>D5 (AZ hH ([.box y [No a0.f.1,a,Pg j,c,No k,No l,b] 27]) a0.f.2.2.2.2.2.2 a0 a3 (e.mono  Ad) (p.mono  Ad) (o.mono  Ad) (e.mono  Ad) a4) ?_;rintro _ eh ⟨c6,c7,c8,rfl,d4,c9,ci,cj,ck⟩;exact Bu
 refine Bx 4 Z<|Ar h ?_ ?_<;>intro a5 h
 ·refine Af ?_;refine Ar h ?_ ?_<;>intro a6 h
  ·exact Bu
  refine Af ?_;refine Cf 116 h ?_ ?_<;>intro a7 h
  ·exact Bu
  refine Af ?_;have a8:AB w [.box b1 [No a0.f.1,a,Pg a0.f.2.2.1,d,No a0.f.2.2.2.2.1,No a0.f.2.2.2.2.2.1,b] 27,.box y [No a0.f.1,a,Pg j,c,No k,No l,b] 27] ab:=x.BX [1] Z;refine Ah h λei a9 h=>D5 (AZ hH ([.box y [No a0.f.1,a,Pg j,c,No k,No l,b] 27]) a0.f.2.2.2.2.2.2 a0 a8 (e.mono  Ad) (p.mono  Ad) (o.mono  Ad) (e.mono  Ad) a9) ?_;rintro _ ej ⟨da,db,dc,rfl,d5,dd,cl,cm,cn⟩;exact Bu
 refine FA 3 Z<|Xx 3 2 Z Z Z Z Z Z Z<|BJ 1 Z<|AH h ?_ ?_<;>intro ba h
 ·refine Af ?_;refine AH h ?_ ?_<;>intro bb h
  ·exact Bu
  refine Af ?_;refine Cf 116 h ?_ ?_<;>intro bc h
  ·exact Bu
  refine Af ?_;have bd:AB w [.box b1 [No a0.f.1,a,Pg a0.f.2.2.1,d,No a0.f.2.2.2.2.1,No a0.f.2.2.2.2.2.1,b] 27,.box y [No a0.f.1,a,Pg j,c,No k,No l,b] 27] ab:=x.BX [1] Z;refine Ah h λek be h=>D5 (AZ hH ([.box y [No a0.f.1,a,Pg j,c,No k,No l,b] 27]) a0.f.2.2.2.2.2.2 a0 bd (e.mono  Ad) (p.mono  Ad) (o.mono  Ad) (e.mono  Ad) be) ?_;rintro _ el ⟨de,df,dg,rfl,d6,dh,co,cp,cq⟩;exact Bu
 refine Af ?_;refine AJ (ND Z Z)<|BJ 1 Z<|Bt h ?_ ?_<;>intro bf h
 ·refine Af ?_;refine Bt h ?_ ?_<;>intro bg h
  ·exact Bu
  refine Af ?_;refine Cf 116 h ?_ ?_<;>intro bh h
  ·exact Bu
  refine Af ?_;have bi:AB w [.box b1 [No a0.f.1,a,Pg a0.f.2.2.1,d,No a0.f.2.2.2.2.1,No a0.f.2.2.2.2.2.1,b] 27,.box y [No a0.f.1,a,Pg j,c,No k,No l,b] 27] ab:=x.BX [1] Z;refine Ah h λem bj h=>D5 (AZ hH ([.box y [No a0.f.1,a,Pg j,c,No k,No l,b] 27]) a0.f.2.2.2.2.2.2 a0 bi (e.mono  Ad) (p.mono  Ad) (o.mono  Ad) (e.mono  Ad) bj) ?_;rintro _ en ⟨di,dj,dk,rfl,d7,dl,cr,cs,ct⟩;exact Bu
 refine Af ?_;refine Bt h ?_ ?_<;>intro bk h
 ·refine Af ?_;refine Bt h ?_ ?_<;>intro bl h
  ·exact Bu
  refine Af ?_;refine Cf 116 h ?_ ?_<;>intro bm h
  ·exact Bu
  refine Af ?_;have bn:AB w [.box b1 [No a0.f.1,a,Pg a0.f.2.2.1,d,No a0.f.2.2.2.2.1,No a0.f.2.2.2.2.2.1,b] 27,.box y [No a0.f.1,a,Pg j,c,No k,No l,b] 27] ab:=x.BX [1] Z;refine Ah h λeo bo h=>D5 (AZ hH ([.box y [No a0.f.1,a,Pg j,c,No k,No l,b] 27]) a0.f.2.2.2.2.2.2 a0 bn (e.mono  Ad) (p.mono  Ad) (o.mono  Ad) (e.mono  Ad) bo) ?_;rintro _ ep ⟨dm,dn,dp,rfl,d8,dq,cu,cv,cw⟩;exact Bu
 refine Af ?_;refine Bt h ?_ ?_<;>intro bp h
 ·refine Af ?_;refine Bt h ?_ ?_<;>intro bq h
  ·exact Bu
  refine Af ?_;refine Cf 116 h ?_ ?_<;>intro br h
  ·exact Bu
  refine Af ?_;have bs:AB w [.box b1 [No a0.f.1,a,Pg a0.f.2.2.1,d,No a0.f.2.2.2.2.1,No a0.f.2.2.2.2.2.1,b] 27,.box y [No a0.f.1,a,Pg j,c,No k,No l,b] 27] ab:=x.BX [1] Z;refine Ah h λeq bt h=>D5 (AZ hH ([.box y [No a0.f.1,a,Pg j,c,No k,No l,b] 27]) a0.f.2.2.2.2.2.2 a0 bs (e.mono  Ad) (p.mono  Ad) (o.mono  Ad) (e.mono  Ad) bt) ?_;rintro _ er ⟨dr,ds,dt,rfl,d9,du,cx,cy,cz⟩;exact Bu
 refine Af ?_;refine Bt h ?_ ?_<;>intro bu h
 ·exact Bu
 refine Af ?_;refine Cf 116 h ?_ ?_<;>intro bv h
 ·exact Bu
 refine Af ?_;have bw:AB w [.box b1 [No a0.f.1,a,Pg a0.f.2.2.1,d,No a0.f.2.2.2.2.1,No a0.f.2.2.2.2.2.1,b] 27,.box y [No a0.f.1,a,Pg j,c,No k,No l,b] 27] ab:=x.BX [1] Z;refine Ah h λes bx h=>D5 (AZ hH ([.box y [No a0.f.1,a,Pg j,c,No k,No l,b] 27]) a0.f.2.2.2.2.2.2 a0 bw (e.mono  Ad) (p.mono  Ad) (o.mono  Ad) (e.mono  Ad) bx) ?_;rintro _ et ⟨dv,dw,dx,rfl,ea,dy,c0,c1,c2⟩;exact Bu
def GH(a0:Qv)(a:Bool):Option Int:=
 if a then TI (4)else(if((decide (a0.f.1=4))&&(decide ((a0.f.2.2.2.1.length:Int)=0)))then TI (10)else(if 64<(a0.f.2.2.2.1.length:Int)then TI (3)else TI (0)))
def GJ(a0:Qv):Option Int:=
 Xd (HC a0.f.2.2.1) (λa=>if a.1=0/\a.2=0 then(if((decide (a0.f.1=3))&&((decide (a0.f.2.2.2.2.1<1))||(decide (2048<a0.f.2.2.2.2.1))))then(GH a0) ((decide (a0.f.1=3))&&((decide (a0.f.2.2.2.2.1<1))||(decide (2048<a0.f.2.2.2.2.1))))else(GH a0) ((decide (a0.f.1=6))&&(decide (a0.f.2.2.2.2.2.1<a0.f.2.2.2.2.1))))else TI (a.1))
def EO(a0:Qv):Int->Option ((Int)⊕(Int)):=λa=>
 if a<(a0.f.2.1.length:Int)then Ay (0<=a/\a<(a0.f.2.1.length:Int)) (Xd (Ho (a0.f.2.1.getD a.toNat Qq7)) (λb=>if b.1=0/\b.2=0 then Ay (AL (a+1)) (TI (Sum.inl (a+1)))else Sh Sum.inr (TI (b.1))))else Sh Sum.inr ((GJ a0))
def NL(a0:Qv)(s:Int):Option Int:=Go.L.run (EO a0) s
def J5(a0:Qv):Option Int:=
 if((decide (a0.f.1<1))||(decide (10<a0.f.1)))then TI (5)else Xd (MO a0) (λa=>if !a then TI (6)else(NL a0) (0:Int))
theorem AnN(hU:E1 H){a0:Qv}{g k l:Value}(x:As .st H g (a0.f.2.1))(y:As .byte H k (a0.f.2.2.2.1))(ak:As .AN H l (a0.f.2.2.2.2.2.2)){r:Int}(h:J5 a0=TI r):
  Pd 96 [.agg #[No a0.f.1,g,Pg a0.f.2.2.1,k,No a0.f.2.2.2.2.1,No a0.f.2.2.2.2.2.1,l]] w (λv w'=>v=No r):=by
 refine Ai 80 [(0,.agg #[No a0.f.1,g,Pg a0.f.2.2.1,k,No a0.f.2.2.2.2.1,No a0.f.2.2.2.2.2.1,l])] func96 Z λhL=>A5<|B6 (t:=27) Z Z hL λw1 u z be _=>AR ?_;refine Gs 4 14 (.bool ((decide (a0.f.1<1))||(decide (10<a0.f.1)))) (λai=>?_) ?_
 ·refine Cu (s:=10) Z (λi=>?_) (λi=>?_)
  ·iterate 3 refine AW i ?_
   refine sF i Z<|ai.to 3 (T3 i) Z Z
  refine Aj i<|sA Z Vv Z DW.e<|Aj i<|sB 0 Z z Z<|Aj i<|sI Z<|sG i Z<|ai.to 3 (T5 i) Z Z
 refine Ap<|AH h ?_ ?_<;>intro a3 h
 ·exact Bu
 refine AR ?_;refine Ah h λx6 a4 h=>Al z (AbE (a0:=a0) _ _ (Ae z) (x.mono  Ad) (y.mono  Ad) (ak.mono  Ad) a4) λw7 bm a5 bf=>BJ 1 Z<|AH h ?_ ?_<;>intro a6 h
 ·exact Bu
 refine Af ?_;refine AA Unit (λ(_:Unit)=>[(1,(SX u))]) (λ(_:Unit) wr=>AB w [.box u [No a0.f.1,g,Pg a0.f.2.2.1,k,No a0.f.2.2.2.2.1,No a0.f.2.2.2.2.2.1,l] 27] wr/\(GJ a0)=TI r) ?_ ?_
 ·refine Af ?_;refine A4 ?_;obtain⟨aa,h⟩:=Ax h;refine AF (Int×Nat) (λ⟨b,n⟩=>[(1,(SX u)),(19,g),(20,No (a0.f.2.1.length:Int)),(21,No b)]) (λ⟨b,n⟩ wr=>AB w [.box u [No a0.f.1,g,Pg a0.f.2.2.1,k,No a0.f.2.2.2.2.1,No a0.f.2.2.2.2.2.1,l] 27] wr/\D6 (EO a0) n b=TI r) (λ⟨b,n⟩=>n) (0,aa) Z ⟨a5,h⟩ ?_;rintro⟨b,nn58⟩ bg ⟨o,h⟩;obtain⟨aa,bn,rfl,h,p⟩:=Aw h;refine AR ?_;refine Ar h ?_ ?_<;>intro al h
  ·refine AR ?_;refine Ag h λab h=>A1 x b.toNat (BP ab) (An ab) ?_;rintro bo _ rfl am;refine sH am (hH.trans o.arg)<|Af ?_;refine Ah h λbp an h=>Al o (IS _ _ (Ae o) (hU.mono  Ad) an) λbq bh ao a8=>Aq Av.e Z ao λbr bs ap a9 _=>Ac 0 Z ap Z λbt aq ba=>Af ?_;refine AJ (A8 (λ_=>Bo _))<|AJ (I4 Ge (KO _ _ _ _))<|Ap<|Bt h ?_ ?_<;>intro ar h
   ·have h:=AX.out h p;exact Bu
   refine Ag h λbi h=>Af ?_;have au:=aq.dT 0 Z;have h:=AX.again h p;refine Ak (_,_) Z ⟨au,h⟩
  have h:=AX.out h p;refine Af ?_;refine Am () ⟨o,h⟩
 rintro _ bj ⟨ac,h⟩;refine AR ?_;refine Ah h λaj av h=>Al ac (Kt _ _ (Ae ac) av) λbu bk aw bb=>Aq Av.e Z aw λbv a7 ax bc _=>Ac 0 Z ax Z λbw m bd=>Af ?_;refine AJ (A8 (λ_=>Bo _))<|AJ (I4 Ge (KO _ _ _ _))<|Ap<|Bt h ?_ ?_<;>intro ay h
 ·exact Bu
 refine Af ?_;refine tJ<|AA Bool (λj=>[(1,(SX u)),(41,.bool j)]) (λj wr=>AB w [.box a7 [No aj.1,No aj.2] 39,.box u [No a0.f.1,g,Pg a0.f.2.2.1,k,No a0.f.2.2.2.2.1,No a0.f.2.2.2.2.2.1,l] 27] wr/\(GH a0) j=TI r) ?_ ?_
 ·refine Af ?_;refine Gs 9 54 (.bool ((decide (a0.f.1=3))&&((decide (a0.f.2.2.2.2.1<1))||(decide (2048<a0.f.2.2.2.2.1))))) (λad=>?_) ?_
  ·refine Cu (s:=45) Z (λd=>?_) (λd=>?_)
   ·refine Af ?_;refine Gs 4 53 (.bool ((decide (a0.f.2.2.2.2.1<1))||(decide (2048<a0.f.2.2.2.2.1)))) (λae=>?_) ?_
    ·refine Cu (s:=49) Z (λe=>?_) (λe=>?_)
     ·iterate 3 refine AW e ?_
      refine Aj d<|sF e Z<|ae.to 3 (T3 e) Z Z
     refine Aj e<|sA Z Vv Z DW.e<|Aj e<|sB 1 Z m Z<|Aj e<|sI Z<|Aj d<|sG e Z<|ae.to 3 (T5 e) Z Z
    refine sF d Z<|ad.to 5 (LV d) Z Z
   iterate 4 refine AW d ?_
   iterate 3 refine IP ?_
   refine AW d<|sG d Z<|ad.to 8 (LW d) Z Z
  refine BJ 1 Z<|AH h ?_ ?_<;>intro az h
  ·refine Ca<|Am _ ⟨m,h⟩
  refine Af ?_;refine Gs 6 64 (.bool ((decide (a0.f.1=6))&&(decide (a0.f.2.2.2.2.2.1<a0.f.2.2.2.2.1)))) (λaf=>?_) ?_
  ·refine Cu (s:=58) Z (λc=>?_) (λc=>?_)
   ·refine Aj c<|sA Z Vv Z DW.e<|Aj c<|sB 1 Z m Z<|Aj c<|sA Z Vv Z DW.e<|Aj c<|sB 1 Z m Z<|Aj c<|sI Z<|sF c Z<|af.to 5 (LV c) Z Z
   iterate 5 refine AW c ?_
   refine sG c Z<|af.to 5 (LW c) Z Z
  refine Af ?_;refine Am _ ⟨m,h⟩
 rintro j bl ⟨a1,h⟩;refine AH h ?_ ?_<;>intro a2 h
 ·exact Bu
 refine Af ?_;refine Gs 5 74 (.bool ((decide (a0.f.1=4))&&(decide ((a0.f.2.2.2.1.length:Int)=0)))) (λq=>?_) ?_
 ·refine Cu (s:=69) Z (λa=>?_) (λa=>?_)
  ·refine Aj a<|sA Z Vv Z Nu.e<|Aj a<|sB 1 Z a1 Z<|Aj a<|sE y<|Aj a<|sI Z<|sF a Z<|q.to 4 (LV a) Z Z
  iterate 4 refine AW a ?_
  refine sG a Z<|q.to 4 (LW a) Z Z
 refine BJ 1 Z<|AH h ?_ ?_<;>intro ag h
 ·exact Bu
 refine Af ?_;refine Ar h ?_ ?_<;>intro ah h
 ·exact Bu
 exact Bu
end
def Ni(a:Int):Option TE:=
 TI (a,(0,0))
def Gc(a0:Qv)(a2:Int)(self:Qv->Int->Int->Option TE):Int×Int->Option (Zv⊕TE):=λ⟨c,a⟩=>
 if a<(a0.f.2.2.2.2.2.2.length:Int)then Ay (0<=a/\a<(a0.f.2.2.2.2.2.2.length:Int)) (Ay (AL (a2+1)) (Xd (self (a0.f.2.2.2.2.2.2.getD a.toNat Qq7) c (a2+1)) (λb=>if b.2.1=0/\b.2.2=0 then Ay (AL (a+1)) (TI (Sum.inl (b.1,(a+1))))else Sh Sum.inr (TI (0,(b.2.1,b.2.2))))))else Sh Sum.inr (Ni c)
def Amy(a0:Qv)(a2:Int)(self:Qv->Int->Int->Option TE)(s:Int×Int):Option TE:=Go.L.run (Gc a0 a2 self) s
def IB(self:Qv->Int->Int->Option TE)(a0:Qv)(a1 a2:Int):Option TE:=
 if(40<=a1)\/(8<a2)then Xd (C5 (2:Int) a1) (λb=>TI (0,(b.1,b.2)))else Xd (J5 a0) (λc=>if c=0 then Ay (AL (a1+1)) ((Amy a0 a2 self) ((a1+1),0))else Xd (C5 c a1) (λa=>TI (0,(a.1,a.2))))
def Jl(self:Qv->Int->Int->Option TE):Prop:=∀(w:World) (H:PH) (hH:Le H (hp w)) (hU:E1 H) {a0:Qv}{a1:Int}{a2:Int}{a:Value}{b:Value}{c:Value} (d:As .st H a (a0.f.2.1)) (e:As .byte H b (a0.f.2.2.2.1)) (g:As .AN H c (a0.f.2.2.2.2.2.2)) {r:TE} (h:self a0 a1 a2=TI r),Ok prog 50 [.agg #[No a0.f.1,a,Pg a0.f.2.2.1,b,No a0.f.2.2.2.2.1,No a0.f.2.2.2.2.2.1,c],No a1,No a2] w (λv w'=>Ext w w'/\v=.tuple #[No r.1,.agg #[No r.2.1,No r.2.2]])
def FR:Nat->Qv->Int->Int->Option TE
 | 0=>λ_ _ _=>none
 | n+1=>IB (FR n)
def Ru:Qv->Int->Int->Option TE:=FR 1000
def AnG(self:Qv->Int->Int->Option TE)(hself:Jl self):Jl (IB self):=by
 intro w H hH hU a0 a1 a2 e g d ak al v r h;unfold Jl at hself;refine Ai 52 [(0,.agg #[No a0.f.1,e,Pg a0.f.2.2.1,g,No a0.f.2.2.2.2.1,No a0.f.2.2.2.2.2.1,d]),(1,No a1),(2,No a2)] func50 Z λhL=>A5<|B6 (t:=27) Z Z hL λw1 b1 ay bj _=>AK 1 Z<|Aq Av.e Z ay λw2 b2 l bk _=>AR ?_;refine Vj 2 2 Z Z Z Z Z Z<|Ap<|Ar h ?_ ?_<;>intro az h
 ·refine FA 1 Z<|Ah h λx5 a3 h=>Al l (Cp _ _ (Ae l) a3) λw6 b3 a4 bl=>AK 1 Z<|Ac 0 Z a4 Z λw7 aj bm=>Af ?_
  cases h
  refine AP (.tmp Z) (.cell Z QW Z Av.e (box_pT 0 aj Z)) ⟨aj.ext,Z⟩
 refine AR ?_;refine Ah h λx9 a5 h=>Al l (AnN (a0:=a0) _ _ (Ae l) (hU.mono  Ad) (ak.mono  Ad) (al.mono  Ad) (v.mono  Ad) a5) λb4 bn i bb=>Af ?_;refine Bt h ?_ ?_<;>intro am h
 ·refine FA 2 Z<|Ah h λb5 an h=>Al i (Cp _ _ (Ae i) an) λb6 bo ao bc=>AK 1 Z<|Ac 0 Z ao Z λb7 x bd=>Af ?_
  cases h
  refine AP (.tmp Z) (.cell Z QW Z Av.e (box_pT 0 x Z)) ⟨x.ext,Z⟩
 refine Ag h λbp h=>Af ?_;refine AA Int (λc=>[(7,(SX b2)),(9,No c)]) (λc wr=>AB w [.box b2 [No 0,No 0] 39,.box b1 [No a0.f.1,e,Pg a0.f.2.2.1,g,No a0.f.2.2.2.2.1,No a0.f.2.2.2.2.2.1,d] 27] wr/\Ni c=TI r) ?_ ?_
 ·refine Af ?_;refine A4 ?_;obtain⟨y,h⟩:=Ax h;refine AF (Int×Int×Nat) (λ⟨b,a,n⟩=>[(2,No a2),(7,(SX b2)),(9,No b),(31,d),(32,No (a0.f.2.2.2.2.2.2.length:Int)),(33,No a)]) (λ⟨b,a,n⟩ wr=>AB w [.box b2 [No 0,No 0] 39,.box b1 [No a0.f.1,e,Pg a0.f.2.2.1,g,No a0.f.2.2.2.2.1,No a0.f.2.2.2.2.2.1,d] 27] wr/\D6 (Gc a0 a2 self) n (b,a)=TI r) (λ⟨b,a,n⟩=>n) ((a1+1),0,y) Z ⟨i,h⟩ ?_;rintro⟨b,a,nn92⟩ bq ⟨j,h⟩;obtain⟨y,b8,rfl,h,k⟩:=Aw h;refine AR ?_;refine Ar h ?_ ?_<;>intro ap h
  ·refine AR ?_;refine Ag h λz h=>A1 v a.toNat (BP z) (An z) ?_;rintro b9 _ e96t0 aq;obtain⟨_,_,rfl,rfl,⟨_,_,rfl,⟨e96v1,rfl,e96h1⟩,⟨_,_,rfl,rfl,⟨_,_,rfl,⟨e96v3,rfl,e96h3⟩,⟨_,_,rfl,rfl,⟨_,_,rfl,rfl,⟨e96v6,rfl,e96h6⟩⟩⟩⟩⟩⟩⟩:=Go.E.Rp.C2 e96t0;refine AJ (AU aq (hH.trans j.arg))<|Aq Bs.e Z j λca cb ar be _=>Ac 0 Z ar Z (a:=(AV Z (AV e96h1.one (AV Z (AV e96h3.one (AV Z (AV Z (AV e96h6.one JO)))))))) λcc au bf=>Af ?_;refine Aq Av.e Z au λbr bs m a6 _=>Ag h λbg h=>Af ?_;refine Ah h λav ab h=>Al m (hself _ _ (Ae m) (hU.mono  Ad) (e96h1.mono  Ad) (e96h3.mono  Ad) (e96h6.mono  Ad) ab) λbt bh ac a7=>AK 4 Z<|Ac 0 Z ac Z λbu o a8=>Af ?_;refine AJ (A8 (λ_=>Bo _))<|AJ (I4 Ge (KO _ _ _ _))<|Ap<|Bt h ?_ ?_<;>intro ad h
   ·refine BF (.q 0 (.q 1 (.tail 2))) mixed SF (λbv ae=>?_);have p:=o.call ae;refine Bh Z (C6 0 Z Av.e p Z) Z<|Br 1 Z<|AT (λbw af=>?_);have ag:=p.call af;refine Ac 2 Z ag Z ?_;intro bx s a9;have h:=AX.out h k;refine Af ?_
    cases h
    refine AP (.tmp Z) (.cell Z QW Z Av.e (box_pT 2 s Z)) ⟨s.ext,Z⟩
   refine Ag h λbi h=>Af ?_;have ah:=o.dT 0 Z;have ai:=ah.dT 0 Z;have h:=AX.again h k;refine Ak (_,_,_) Z ⟨ai,h⟩
  have h:=AX.out h k;refine Af ?_;refine Am _ ⟨j,h⟩
 rintro c bz ⟨aw,h⟩;refine FA 1 Z<|AJ (A8 (λ_=>Bo _))<|AK 1 Z<|Ac 0 Z aw Z λb0 u ba=>Af ?_
 cases h
 refine AP (.tmp Z) (.cell Z QW Z Av.e (box_pT 0 u Z)) ⟨u.ext,Z⟩
theorem Acm(n:Nat):Jl (FR n):=by
 induction n with
 | zero=>unfold Jl;intros;rename_i h;cases h
 | succ n ih=>exact AnG (FR n) ih
section
variable(w:World)(H:PH)(hH:Le H (hp w)) include hH
theorem QxC(hU:E1 H){a0:Qv}{a1 a2:Int}{a b c:Value}(d:As .st H a (a0.f.2.1))(e:As .byte H b (a0.f.2.2.2.1))(g:As .AN H c (a0.f.2.2.2.2.2.2)){r:TE}(h:Ru a0 a1 a2=TI r):Ok prog 50 [.agg #[No a0.f.1,a,Pg a0.f.2.2.1,b,No a0.f.2.2.2.2.1,No a0.f.2.2.2.2.2.1,c],No a1,No a2] w (λv w'=>Ext w w'/\v=.tuple #[No r.1,.agg #[No r.2.1,No r.2.2]]):=Acm 1000 w H hH hU d e g h
def M6(a:Wl):Option Wl:=
 Ay (Go.E.Dx 1 (a.length+([(39:UInt8)]).length)) (TI ((a++[(39:UInt8)])))
def Fb(a0:Wl):Wl×Int->Option ((Wl×Int)⊕(Wl)):=λ⟨b,a⟩=>
 if a<(a0.length:Int)then Ay (0<=a/\a<(a0.length:Int)) (if(((((a0.getD a.toNat Qq7).toNat:Int)=92)\/(((a0.getD a.toNat Qq7).toNat:Int)=39))\/(((a0.getD a.toNat Qq7).toNat:Int)<32))\/(126<((a0.getD a.toNat Qq7).toNat:Int))then Ay (0<=((a0.getD a.toNat Qq7 >>> (4:UInt8)).toNat:Int)/\((a0.getD a.toNat Qq7 >>> (4:UInt8)).toNat:Int)<(([48,49,50,51,52,53,54,55,56,57,97,98,99,100,101,102]:Wl).length:Int)) (Ay (0<=((a0.getD a.toNat Qq7 &&& (15:UInt8)).toNat:Int)/\((a0.getD a.toNat Qq7 &&& (15:UInt8)).toNat:Int)<(([48,49,50,51,52,53,54,55,56,57,97,98,99,100,101,102]:Wl).length:Int)) (Ay (Go.E.Dx 1 (b.length+([(92:UInt8),(([48,49,50,51,52,53,54,55,56,57,97,98,99,100,101,102]:Wl).getD ((a0.getD a.toNat Qq7 >>> (4:UInt8)).toNat:Int).toNat Qq7),(([48,49,50,51,52,53,54,55,56,57,97,98,99,100,101,102]:Wl).getD ((a0.getD a.toNat Qq7 &&& (15:UInt8)).toNat:Int).toNat Qq7)]).length)) (Ay (AL (a+1)) (TI (Sum.inl ((b++[(92:UInt8),(([48,49,50,51,52,53,54,55,56,57,97,98,99,100,101,102]:Wl).getD ((a0.getD a.toNat Qq7 >>> (4:UInt8)).toNat:Int).toNat Qq7),(([48,49,50,51,52,53,54,55,56,57,97,98,99,100,101,102]:Wl).getD ((a0.getD a.toNat Qq7 &&& (15:UInt8)).toNat:Int).toNat Qq7)]),(a+1)))))))else Ay (Go.E.Dx 1 (b.length+([a0.getD a.toNat Qq7]).length)) (Ay (AL (a+1)) (TI (Sum.inl ((b++[a0.getD a.toNat Qq7]),(a+1))))))else Sh Sum.inr (M6 b)
def Qy(a0:Wl)(s:Wl×Int):Option Wl:=Go.L.run (Fb a0) s
def Kj(a0:Wl):Option Wl:=
 (Qy a0) ([(39:UInt8)],0)
theorem ClB{a0:Wl}{p:Value}(ao:As .byte H p a0){r:Wl}(h:Kj a0=TI r):
  Pd 98 [p] w (λv w'=>v=(Pg r)):=by
 refine Ai 45 [(0,p)] func98 Z λhL=>Af ?_;refine KY [(39:UInt8)] (r:=.byte) (λ_=>Ht _ _) (Bk 1) hH hL (.c1 Z .nil) λv1 w1 a9 ba bl bb=>BJ 1 Z<|AA (Wl×Value×LR) (λ⟨o,s,j⟩=>[(3,s)]) (λ⟨o,s,j⟩ wr=>Cd w [.row s 5 1 (o).length j] wr λOz=>Ao .byte (gz H w wr Oz) o j/\M6 o=TI r) ?_ ?_
 ·refine Af ?_;refine A4 ?_;obtain⟨y,h⟩:=Ax h;refine AF (Wl×Int×Value×LR×Nat) (λ⟨e,a,g,f,n⟩=>[(3,g),(7,p),(8,No (a0.length:Int)),(9,No a)]) (λ⟨e,a,g,f,n⟩ wr=>Cd w [.row g 5 1 (e).length f] wr λOz=>Ao .byte (gz H w wr Oz) e f/\D6 (Fb a0) n (e,a)=TI r) (λ⟨e,a,g,f,n⟩=>n) ([(39:UInt8)],0,v1,a9,y) Z ⟨ba,bb,h⟩ ?_;rintro⟨e,a,g,f,nn79⟩ bm ⟨k,d,h⟩;obtain⟨y,bv,rfl,h,u⟩:=Aw h;refine AR ?_;refine Ar h ?_ ?_<;>intro ap h
  ·refine AR ?_;refine Ag h λaa h=>A1 ao a.toNat (BP aa) (An aa) ?_;rintro bw _ rfl aq;refine sH aq (hH.trans k.arg)<|Af ?_;refine Vj 2 2 Z Z Z Z Z Z<|AK 1 Z<|Vj 2 6 Z Z Z Z Z Z<|AK 1 Z<|Vj 2 10 Z Z Z Z Z Z<|Ap<|Ar h ?_ ?_<;>intro ar h
   ·refine P8 (Zt 0 7 (.h 7 (.tail 8))) mixed SF (λbx ab=>?_);have au:=k.call ab;have af:=A3 k ab;refine Br 2 Z<|Bh Z (AlK (c:=4) Z Y5) Z<|Ag h λav h=>Bh Z (Mo av) Z<|Br 1 Z<|Bh Z (AgR (b:=15) Z Z Z) Z<|Ag h λaw h=>Bh Z (Mo aw) Z<|St ([(92:UInt8),(([48,49,50,51,52,53,54,55,56,57,97,98,99,100,101,102]:Wl).getD ((a0.getD a.toNat Qq7 >>> (4:UInt8)).toNat:Int).toNat Qq7),(([48,49,50,51,52,53,54,55,56,57,97,98,99,100,101,102]:Wl).getD ((a0.getD a.toNat Qq7 &&& (15:UInt8)).toNat:Int).toNat Qq7)]) (r:=.byte) Z Z (λ_=>AaP _ _ _ _) Z (Bk 3) hH au (.c1 Z (.c1 Z (.c1 Z .nil))) λbz b0 bn ac ag x=>AT (λb1 ad=>?_);have ax:=ac.call ad;have z:=A3 ac ad;refine Ag h λay h=>?_;have d:=d.mono (Aa (af.trans (ag.trans z)));have x:=x.mono (Aa z)
    refine Bf (r:=.byte) 0 e ([(92:UInt8),(([48,49,50,51,52,53,54,55,56,57,97,98,99,100,101,102]:Wl).getD ((a0.getD a.toNat Qq7 >>> (4:UInt8)).toNat:Int).toNat Qq7),(([48,49,50,51,52,53,54,55,56,57,97,98,99,100,101,102]:Wl).getD ((a0.getD a.toNat Qq7 &&& (15:UInt8)).toNat:Int).toNat Qq7)]) Z LS ax Z d x ay λbc b2 az a1 bf a2=>Ag h λbo h=>Af ?_;have h:=AX.again h u;refine Ak (_,_,_,_,_) Z ⟨a1,a2,h⟩
   refine Af ?_;refine Bi [a0.getD a.toNat Qq7] (r:=.byte) (λ_=>Ht _ _) k (.c1 Z .nil) λb3 b4 bp a3 ah a4=>Ag h λai h=>?_;have d:=d.mono (Aa ah);refine Bf (r:=.byte) 0 e [a0.getD a.toNat Qq7] Z LS a3 Z d a4 ai λbd b5 a5 a6 bg a7=>Ag h λbh h=>Af ?_;have h:=AX.again h u;refine Ak (_,_,_,_,_) Z ⟨a6,a7,h⟩
  have h:=AX.out h u;refine Af ?_;refine Am (_,_,_) ⟨k,d,h⟩
 rintro⟨o,s,j⟩ bq ⟨a8,t,h⟩;refine FA 1 Z<|Bi [(39:UInt8)] (r:=.byte) (λ_=>Ht _ _) a8 (.c1 Z .nil) λbr bs bi aj ae ak=>Ag h λal h=>?_;have t:=t.mono (Aa ae);refine Bf (r:=.byte) 0 o [(39:UInt8)] Z LS aj Z t ak al λbt bu bj am be an=>AJ (O3 (am.Jv hH (i:=0) Z an) (Le.refl _))<|Bu
end
def Nj(a0:Qv)(a:(List Wl))(b:Wl):Option (Qv):=
 TI ((Qv.mk a0.f.1 a a0.f.2.2.1 b a0.f.2.2.2.2.1 a0.f.2.2.2.2.2.1 ([])))
def Mg(a0:Qv)(b:(List Wl))(c:Wl):Int->Option ((Int)⊕(Qv)):=λa=>
 if a<(a0.f.2.2.2.2.2.2.length:Int)then Ay (0<=a/\a<(a0.f.2.2.2.2.2.2.length:Int)) none else Sh Sum.inr ((Nj a0 b c))
def Qzy(a0:Qv)(a:(List Wl))(b:Wl)(s:Int):Option (Qv):=Go.L.run (Mg a0 a b) s
def Pu(_self:Qv->Option (Qv))(a0:Qv):Option (Qv):=
 Xd (Ed a0.f.2.1) (λa=>Xd (Hu a0.f.2.2.2.1) (λb=>(Qzy a0 a b) (0:Int)))
def L4(self:Qv->Option (Qv)):Prop:=∀(w:World) (H:PH) (hH:Le H (hp w)) {a0:Qv}{a:Value}{b:Value}{c:Value} (i:As .st H a (a0.f.2.1)) (j:As .byte H b (a0.f.2.2.2.1)) (k:As .AN H c (a0.f.2.2.2.2.2.2)) {r:Qv} (h:self a0=TI r),Ok prog 107 [.agg #[No a0.f.1,a,Pg a0.f.2.2.1,b,No a0.f.2.2.2.2.1,No a0.f.2.2.2.2.2.1,c]] w (λv w'=>Ext w w'/\∃d e g,v=.agg #[No r.f.1,d,Pg r.f.2.2.1,e,No r.f.2.2.2.2.1,No r.f.2.2.2.2.2.1,g]/\As .st (un H (nw w w')) d (r.f.2.1)/\As .byte (un H (nw w w')) e (r.f.2.2.2.1)/\B2 27 .AN H w w' g (r.f.2.2.2.2.2.2))
def L5:Nat->Qv->Option (Qv)
 | 0=>λ_=>none
 | n+1=>Pu (L5 n)
def Rv:Qv->Option (Qv):=L5 1000
def AaK(self:Qv->Option (Qv))(_hself:L4 self):L4 (Pu self):=by
 intro w H hH a0 aw ax ac ay az a1 r h;refine Ai 32 [(0,.agg #[No a0.f.1,aw,Pg a0.f.2.2.1,ax,No a0.f.2.2.2.2.1,No a0.f.2.2.2.2.2.1,ac])] func107 Z λhL=>A5<|B6 (t:=27) Z Z hL λw1 b1 bb bh _=>Aq Bs.e Z bb λw2 b2 bc bi _=>Ap<|BF (.q 0 (.q 1 (.q 3 (.q 4 (.h 2 (.q 6 (.h 5 (.tail 7)))))))) mixed SF (λw3 bd=>?_);have s:=bc.call bd;refine Bh Z (A7 Z Vv Z Up.e) Z<|Bh Z (AG 1 Z s Z) Z<|Bh Z (A7 Z Vv Z Nu.e) Z<|Bh Z (AG 1 Z s Z) Z<|Ah h λx5 be h=>BK Z Z Z (λw7 ad=>EI _ _ (Ae (s.call ad)) (ay.mono  Ad) be) ?_;rintro w7 k w6 ad ae ⟨_,rfl,ap⟩;have af:=s.call ad;have ag:=af.call ae;have bk:=A3 af ae;have a:=ap.BB hH af ae;refine Bh Z (A7 Z Vv Z Up.e) Z<|Ah h λx9 bf h=>BK Z Z Z (λbg l=>JC _ _ (Ae (ag.call l)) (az.mono  Ad) bf) ?_;rintro bg j bo l m ⟨_,rfl,ah⟩;have o:=ag.call l;have ar:=A3 ag l;have a:=a.mono (Aa ar)
 have ai:=o.call m;have au:=A3 o m;have b:=ah.BB hH o m;have a:=a.mono (Aa au);refine AT (λbp aj=>?_);have a2:=ai.call aj;have u:=A3 ai aj;have a:=a.mono (Aa u);have b:=b.mono (Aa u);refine BW 1 Z Z a.one a2 Z Z ?_;intro bq a3 v;have a:=a.mono (Aa v);have b:=b.mono (Aa v);refine Af ?_;refine BW 1 Z Z b.one a3 Z Z ?_;intro br a4 x;have a:=a.mono (Aa x);have b:=b.mono (Aa x);refine Af ?_;refine BW 1 Z Z Z a4 Z Z ?_;intro bs a5 y;have a:=a.mono (Aa y);have b:=b.mono (Aa y);refine Ap ?_
 refine AA Unit (λ(_:Unit)=>[(1,(SX b1)),(2,(SX b2))]) (λ(_:Unit) wr=>Cd w [.box b2 PG 27,.box b1 [No a0.f.1,k,Pg a0.f.2.2.1,j,No a0.f.2.2.2.2.1,No a0.f.2.2.2.2.2.1,TO] 27] wr λOz=>As .st (gz H w wr Oz) k x5/\As .byte (gz H w wr Oz) j x9/\(Nj a0 x5 x9)=TI r) ?_ ?_
 ·refine Af ?_;refine A4 ?_;obtain⟨av,h⟩:=Ax h;refine AF (Int×Nat) (λ⟨c,n⟩=>[(1,(SX b1)),(2,(SX b2)),(17,ac),(18,No (a0.f.2.2.2.2.2.2.length:Int)),(19,No c)]) (λ⟨c,n⟩ wr=>Cd w [.box b2 PG 27,.box b1 [No a0.f.1,k,Pg a0.f.2.2.1,j,No a0.f.2.2.2.2.1,No a0.f.2.2.2.2.2.1,TO] 27] wr λOz=>As .st (gz H w wr Oz) k x5/\As .byte (gz H w wr Oz) j x9/\D6 (Mg a0 x5 x9) n c=TI r) (λ⟨c,n⟩=>n) (0,av) Z ⟨a5,a,b,h⟩ ?_;rintro⟨c,nn47⟩ bl ⟨p,d,e,h⟩;obtain⟨av,bt,rfl,h,a6⟩:=Aw h;refine AR ?_;refine Ar h ?_ ?_<;>intro a7 h
  ·refine AR ?_;refine Ag h λak h=>A1 a1 c.toNat (BP ak) (An ak) ?_;rintro bu _ e51t0 a8;obtain⟨_,_,rfl,rfl,⟨_,_,rfl,⟨e51v1,rfl,e51h1⟩,⟨_,_,rfl,rfl,⟨_,_,rfl,⟨e51v3,rfl,e51h3⟩,⟨_,_,rfl,rfl,⟨_,_,rfl,rfl,⟨e51v6,rfl,e51h6⟩⟩⟩⟩⟩⟩⟩:=Go.E.Rp.C2 e51t0;refine AJ (AU a8 (hH.trans p.arg))<|Aq Bs.e Z p ?_;intro bv bw a9 z _;have d:=d.mono (Aa z);have e:=e.mono (Aa z);refine Ac 0 Z a9 Z (a:=(AV Z (AV e51h1.one (AV Z (AV e51h3.one (AV Z (AV Z (AV e51h6.one JO)))))))) ?_;intro bx bm aa;have d:=d.mono (Aa aa);have e:=e.mono (Aa aa);refine Ap ?_
   cases h
  have h:=AX.out h a6;refine Af ?_;refine Am () ⟨p,d,e,h⟩
 rintro _ bn ⟨ba,g,i,h⟩;refine Af ?_;refine Ac 0 Z ba Z (a:=(AV Z (AV g.one (AV Z (AV i.one (A6 Z)))))) ?_;intro bz al ab;have g:=g.mono (Aa ab);have i:=i.mono (Aa ab);refine Af ?_
 cases h
 refine Bz (.cell Z Vv Z Bs.e (box_pT 0 al Z)) ⟨al.ext,_,_,_,Z,(g.mono  Dl),(i.mono  Dl),B2.nil⟩
theorem Qxd(n:Nat):L4 (L5 n):=by
 induction n with
 | zero=>unfold L4;intros;rename_i h;cases h
 | succ n ih=>exact AaK (L5 n) ih
section
variable(w:World)(H:PH)(hH:Le H (hp w)) include hH
theorem RM{a0:Qv}{a b c:Value}(d:As .st H a (a0.f.2.1))(e:As .byte H b (a0.f.2.2.2.1))(g:As .AN H c (a0.f.2.2.2.2.2.2)){r:Qv}(h:Rv a0=TI r):Ok prog 107 [.agg #[No a0.f.1,a,Pg a0.f.2.2.1,b,No a0.f.2.2.2.2.1,No a0.f.2.2.2.2.2.1,c]] w (λv w'=>Ext w w'/\∃i j k,v=.agg #[No r.f.1,i,Pg r.f.2.2.1,j,No r.f.2.2.2.2.1,No r.f.2.2.2.2.2.1,k]/\As .st (un H (nw w w')) i (r.f.2.1)/\As .byte (un H (nw w w')) j (r.f.2.2.2.1)/\B2 27 .AN H w w' k (r.f.2.2.2.2.2.2)):=Qxd 1000 w H hH d e g h
end
def Mh(a:Int)(b:List Qv):Option (Qv):=
 TI ((Qv.mk a ([]) ([]:Wl) ([]) (0:Int) (0:Int) b))
def L6(a0:Qv)(a1:Bool)(d:Int)(self:Qv->Bool->Option (Qv)):(List Qv)×Int->Option (((List Qv)×Int)⊕(Qv)):=λ⟨b,a⟩=>
 if a<(a0.f.2.2.2.2.2.2.length:Int)then Ay (0<=a/\a<(a0.f.2.2.2.2.2.2.length:Int)) (Xd (self (a0.f.2.2.2.2.2.2.getD a.toNat Qq7) a1) (λc=>if c.f.1=d then none else Ay (Go.E.Dx 112 (b.length+([c]).length)) (Ay (AL (a+1)) (TI (Sum.inl ((b++[c]),(a+1)))))))else Sh Sum.inr ((Mh d) b)
def Qkc(a0:Qv)(a1:Bool)(a:Int)(self:Qv->Bool->Option (Qv))(s:(List Qv)×Int):Option (Qv):=Go.L.run (L6 a0 a1 a self) s
def Ix(a0:Qv)(a1:Bool)(self:Qv->Bool->Option (Qv))(a:Int):Option (Qv):=
 (Qkc a0 a1 a self) (([]:List Qv),0)
def Own(self:Qv->Bool->Option (Qv))(a0:Qv)(a1:Bool):Option (Qv):=
 if a0.f.1=10 then Ay (0<=(0:Int)/\(0:Int)<(a0.f.2.2.2.2.2.2.length:Int)) (Xd (self (a0.f.2.2.2.2.2.2.getD ((0:Int).toNat) Qq7) (!a1)) (λe=>TI e))else Xd (Ki a0.f.1) (λa=>if(bif a then !a1 else false)then Xd (Rv a0) (λb=>TI b)else Xd (Ki a0.f.1) (λc=>if c then Xd (Rv a0) (λd=>TI ((Qv.mk (10:Int) ([]) ([]:Wl) ([]) (0:Int) (0:Int) ([d]))))else(if a1 then Ay (AL (17 - a0.f.1)) ((Ix a0 a1 self) (17 - a0.f.1))else(Ix a0 a1 self) a0.f.1)))
def Ih(self:Qv->Bool->Option (Qv)):Prop:=∀(w:World) (H:PH) (hH:Le H (hp w)) {a0:Qv}{a1:Bool}{a:Value}{b:Value}{c:Value} (i:As .st H a (a0.f.2.1)) (j:As .byte H b (a0.f.2.2.2.1)) (k:As .AN H c (a0.f.2.2.2.2.2.2)) {r:Qv} (h:self a0 a1=TI r),Ok prog 57 [.agg #[No a0.f.1,a,Pg a0.f.2.2.1,b,No a0.f.2.2.2.2.1,No a0.f.2.2.2.2.2.1,c],.bool a1] w (λv w'=>Ext w w'/\∃d e g,v=.agg #[No r.f.1,d,Pg r.f.2.2.1,e,No r.f.2.2.2.2.1,No r.f.2.2.2.2.2.1,g]/\As .st (un H (nw w w')) d (r.f.2.1)/\As .byte (un H (nw w w')) e (r.f.2.2.2.1)/\As .AN (un H (nw w w')) g (r.f.2.2.2.2.2.2))
def Kw:Nat->Qv->Bool->Option (Qv)
 | 0=>λ_ _=>none
 | n+1=>Own (Kw n)
def Uc:Qv->Bool->Option (Qv):=Kw 1000
def Qk9(self:Qv->Bool->Option (Qv))(hself:Ih self):Ih (Own self):=by
 intro w H hH a0 a1 aq ar am bj bk au r h;unfold Ih at hself;refine Ai 75 [(0,.agg #[No a0.f.1,aq,Pg a0.f.2.2.1,ar,No a0.f.2.2.2.2.1,No a0.f.2.2.2.2.2.1,am]),(1,.bool a1)] func57 Z λhL=>A5<|B6 (t:=27) Z Z hL λw1 b1 c3 dv _=>Aq Bs.e Z c3 λw2 b2 af dw _=>AR ?_;refine Ar h ?_ ?_<;>intro c4 h
 ·refine Af ?_;refine Ag h λcn h=>A1 au ((0:Int).toNat) (BP cn) (An cn) ?_;rintro p5 _ e5t0 c5;obtain⟨_,_,rfl,rfl,⟨_,_,rfl,⟨e5v1,rfl,e5h1⟩,⟨_,_,rfl,rfl,⟨_,_,rfl,⟨e5v3,rfl,e5h3⟩,⟨_,_,rfl,rfl,⟨_,_,rfl,rfl,⟨e5v6,rfl,e5h6⟩⟩⟩⟩⟩⟩⟩:=Go.E.Rp.C2 e5t0;refine AJ (AU c5 (hH.trans af.arg))<|AK 2 Z<|Ah h λx7 c6 h=>A9 af (hself _ _ (Ae af) (e5h1.mono  Ad) (e5h3.mono  Ad) (e5h6.mono  Ad) c6) ?_;rintro _ w8 ⟨dx,dy,dz,rfl,b5,b6,b7⟩ bl c8 d0;have ah:=b5.mono (Da af bl);have ai:=b6.mono (Da af bl);have aj:=b7.mono (Da af bl);refine Ac 0 Z c8 Z (a:=(AV Z (AV ah.one (AV Z (AV ai.one (AV Z (AV Z (AV aj.one JO)))))))) ?_;intro w9 co a6;have ah:=ah.mono (Aa a6);have ai:=ai.mono (Aa a6);have aj:=aj.mono (Aa a6);refine Af ?_
  cases h
  refine Bz (.cell Z Vv Z Bs.e (box_pT 0 co Z)) ⟨co.ext,_,_,_,Z,(ah.mono  Dl),(ai.mono  Dl),(aj.mono  Dl)⟩
 refine Af ?_;refine Ah h λel cp h=>Al af (M5 _ _ (Ae af) cp) λem d1 v de=>AK 1 Z<|Xx 2 3 Z Z Z Z Z Z Z<|BJ 1 Z<|AH h ?_ ?_<;>intro cq h
 ·refine Af ?_;refine Ah h λen cr h=>A9 v (RM (a0:=a0) _ _ (Ae v) (bj.mono  Ad) (bk.mono  Ad) (au.mono  Ad) cr) ?_;rintro _ eo ⟨df,dg,dh,rfl,bm,bn,bo⟩ a7 cs di;have x:=bm.mono (Da v a7);have y:=bn.mono (Da v a7);have z:=bo.BB hH v a7;refine Ac 0 Z cs Z (a:=(AV Z (AV x.one (AV Z (AV y.one (AV Z (AV Z (AV z.one JO)))))))) ?_;intro ep bp av;have x:=x.mono (Aa av);have y:=y.mono (Aa av);have z:=z.mono (Aa av);refine Af ?_
  cases h
  refine Bz (.cell Z Vv Z Bs.e (box_pT 0 bp Z)) ⟨bp.ext,_,_,_,Z,(x.mono  Dl),(y.mono  Dl),(z.mono  Dl)⟩
 refine Af ?_;refine Ah h λeq ct h=>Al v (M5 _ _ (Ae v) ct) λer d2 ae dj=>BJ 1 Z<|AH h ?_ ?_<;>intro cu h
 ·refine Af ?_;refine Ah h λc9 cv h=>A9 ae (RM (a0:=a0) _ _ (Ae ae) (bj.mono  Ad) (bk.mono  Ad) (au.mono  Ad) cv) ?_;rintro _ es ⟨dk,dl,dm,rfl,bq,br,bs⟩ a8 cw dn;have p:=bq.mono (Da ae a8);have q:=br.mono (Da ae a8);have s:=bs.BB hH ae a8;refine Bi [c9] (r:=.AN) (λ_=>Pk _ _ _ _ _ _ _ _) cw (.c7 (Go.E.Rp.Gu ⟨_,_,Z,Z,⟨_,_,Z,⟨_,Z,p⟩,⟨_,_,Z,Z,⟨_,_,Z,⟨_,Z,q⟩,⟨_,_,Z,Z,⟨_,_,Z,Z,⟨_,Z,s⟩⟩⟩⟩⟩⟩⟩) .nil) ?_;intro et eu d3 cx aw an;have p:=p.mono (Aa aw);have q:=q.mono (Aa aw);have s:=s.mono (Aa aw);refine AJ (A8 (λ_=>Qe _ _ an.one _))<|Ac 0 Z cx Z (a:=(AV Z (AV Z (AV Z (AV Z (AV Z (AV Z (AV an.one JO)))))))) ?_;intro ev bt ak;have p:=p.mono (Aa ak);have q:=q.mono (Aa ak);have s:=s.mono (Aa ak);have an:=an.mono (Aa ak);refine Af ?_
  cases h
  refine Bz (.cell Z Vv Z Bs.e (box_pT 0 bt Z)) ⟨bt.ext,_,_,_,Z,(As.nil _ _),(As.nil _ _),(an.mono  Dl)⟩
 refine Af ?_;refine AJ (A8 (λ_=>AjM _ _))<|Aq Bs.e Z ae λew ap cy dp _=>Ac 0 Z cy Z λex bu dq=>Ap<|AA Int (λag=>[(1,.bool a1),(2,(SX b1)),(4,(SX b2)),(5,(SX ap))]) (λag wr=>AB w [.box ap [No ag,TO,(Pg []),TO,No 0,No 0,TO] 27,.box b2 PG 27,.box b1 [No a0.f.1,aq,Pg a0.f.2.2.1,ar,No a0.f.2.2.2.2.1,No a0.f.2.2.2.2.2.1,am] 27] wr/\(Ix a0 a1 self) ag=TI r) ?_ ?_
 ·refine Bx 1 Z<|AH h ?_ ?_<;>intro cz h
  ·refine Ag h λd4 h=>Af ?_;refine BW 0 Z Z Z bu Z Z λey c0 dr=>HX<|Am _ ⟨c0,h⟩
  refine Ca<|Am _ ⟨bu,h⟩
 rintro ag d5 ⟨c1,h⟩;refine AA ((List Qv)×Value×LR) (λ⟨a4,ax,al⟩=>[(4,(SX b2)),(5,(SX ap))]) (λ⟨a4,ax,al⟩ wr=>Cd w [.row ax 27 7 (a4).length al,.box ap [No ag,TO,(Pg []),TO,No 0,No 0,ax] 27,.box b2 PG 27,.box b1 [No a0.f.1,aq,Pg a0.f.2.2.1,ar,No a0.f.2.2.2.2.1,No a0.f.2.2.2.2.2.1,am] 27] wr λOz=>Ao .AN (gz H w wr Oz) a4 al/\(Mh ag) a4=TI r) ?_ ?_
 ·refine Af ?_;refine A4 ?_;obtain⟨b8,da,b9⟩:=B3 .AN H 27 c1;obtain⟨a9,h⟩:=Ax h;refine AF ((List Qv)×Int×Value×LR×Nat) (λ⟨k,c,u,j,n⟩=>[(1,.bool a1),(4,(SX b2)),(5,(SX ap)),(47,am),(48,No (a0.f.2.2.2.2.2.2.length:Int)),(49,No c)]) (λ⟨k,c,u,j,n⟩ wr=>Cd w [.row u 27 7 (k).length j,.box ap [No ag,TO,(Pg []),TO,No 0,No 0,u] 27,.box b2 PG 27,.box b1 [No a0.f.1,aq,Pg a0.f.2.2.1,ar,No a0.f.2.2.2.2.1,No a0.f.2.2.2.2.2.1,am] 27] wr λOz=>Ao .AN (gz H w wr Oz) k j/\D6 (L6 a0 a1 ag self) n (k,c)=TI r) (λ⟨k,c,u,j,n⟩=>n) (([]:List Qv),0,TO,[],a9) Z ⟨b8,b9,h⟩ ?_;rintro⟨k,c,u,j,nn121⟩ ds ⟨ay,a,h⟩;obtain⟨a9,d6,rfl,h,bb⟩:=Aw h;refine AR ?_;refine Ar h ?_ ?_<;>intro ca h
  ·refine AR ?_;refine Ag h λbc h=>A1 au c.toNat (BP bc) (An bc) ?_;rintro d7 _ e126t0 cb;obtain⟨_,_,rfl,rfl,⟨_,_,rfl,⟨e126v1,rfl,e126h1⟩,⟨_,_,rfl,rfl,⟨_,_,rfl,⟨e126v3,rfl,e126h3⟩,⟨_,_,rfl,rfl,⟨_,_,rfl,rfl,⟨e126v6,rfl,e126h6⟩⟩⟩⟩⟩⟩⟩:=Go.E.Rp.C2 e126t0;refine AJ (AU cb (hH.trans ay.arg))<|Aq Bs.e Z ay ?_;intro d8 d9 cc bv _;have a:=a.mono (Aa bv);refine Ac 0 Z cc Z (a:=(AV Z (AV e126h1.one (AV Z (AV e126h3.one (AV Z (AV Z (AV e126h6.one JO)))))))) ?_;intro ea aa bw;have a:=a.mono (Aa bw);refine Af ?_;refine Ah h λba cd h=>A9 aa (hself _ _ (Ae aa) (e126h1.mono  Ad) (e126h3.mono  Ad) (e126h6.mono  Ad) cd) ?_;rintro _ eb ⟨db,dc,dd,rfl,bg,bh,bi⟩ az ce bx;have d:=bg.mono (Da aa az);have e:=bh.mono (Da aa az);have g:=bi.mono (Da aa az);have a:=a.mono (Aa bx);refine Aq Bs.e Z ce ?_;intro ec ed cf ab _;have a:=a.mono (Aa ab);have d:=d.mono (Aa ab)
   have e:=e.mono (Aa ab);have g:=g.mono (Aa ab);refine Ac 0 Z cf Z (a:=(AV Z (AV d.one (AV Z (AV e.one (AV Z (AV Z (AV g.one JO)))))))) ?_;intro ee bd ac;have a:=a.mono (Aa ac);have d:=d.mono (Aa ac);have e:=e.mono (Aa ac);have g:=g.mono (Aa ac);have b:=bd.rG H;refine Af ?_;refine Ar h ?_ ?_<;>intro cg h
   ·cases h
   refine Af ?_;refine Bi [ba] (r:=.AN) (λ_=>Pk _ _ _ _ _ _ _ _) bd (.c7 (Go.E.Rp.Gu ⟨_,_,Z,Z,⟨_,_,Z,⟨_,Z,(d.mono b)⟩,⟨_,_,Z,Z,⟨_,_,Z,⟨_,Z,(e.mono b)⟩,⟨_,_,Z,Z,⟨_,_,Z,Z,⟨_,Z,(g.mono b)⟩⟩⟩⟩⟩⟩⟩) .nil) ?_;intro ef eg dt ch bz ad;have b:=b.trans (Aa bz);refine Ag h λci h=>Bf (r:=.AN) 2 k [ba] Z U5 ch Z (a.mono b) ad ci ?_;intro c2 eh cj be a5 o;have ad:=ad.mono (Aa a5);have b:=b.trans (Aa a5);refine Af ?_;refine BW 3 Z Z (row_one (be.aT 2 Z)) be Z Z ?_;intro ei ck ao;have ad:=ad.mono (Aa ao);have o:=o.mono (Aa ao);have b:=b.trans (Aa ao);refine Ag h λdu h=>Af ?_;have cl:=ck.dT 0 Z;have o:=o.mono (Aa (fz_dT 0 Z));have b:=b.trans (Aa (fz_dT 0 Z));have cm:=cl.dT 0 Z;have o:=o.mono (Aa (fz_dT 0 Z));have b:=b.trans (Aa (fz_dT 0 Z));have h:=AX.again h bb
   refine Ak (_,_,_,_,_) Z ⟨cm,o,h⟩
  have h:=AX.out h bb;refine Af ?_;refine Am (_,_,_) ⟨ay,a,h⟩
 rintro⟨a4,ax,al⟩ ej ⟨b0,a2,h⟩;refine Af ?_;refine Ac 2 Z b0 Z (a:=(AV Z (AV Z (AV Z (AV Z (AV Z (AV Z (AV (row_one (b0.aT 0 Z)) JO)))))))) ?_;intro ek a3 b3;have a2:=a2.mono (Aa b3);refine Af ?_
 cases h
 refine Bz (.cell Z Vv Z Bs.e (box_pT 2 a3 Z)) ⟨a3.ext,_,_,_,Z,(As.nil _ _),(As.nil _ _),((a3.Ev hH (i:=0) Z a2).vec hH)⟩
theorem Qxf(n:Nat):Ih (Kw n):=by
 induction n with
 | zero=>unfold Ih;intros;rename_i h;cases h
 | succ n ih=>exact Qk9 (Kw n) ih
section
variable(w:World)(H:PH)(hH:Le H (hp w)) include hH
theorem QkZ{a0:Qv}{a1:Bool}{a b c:Value}(d:As .st H a (a0.f.2.1))(e:As .byte H b (a0.f.2.2.2.1))(g:As .AN H c (a0.f.2.2.2.2.2.2)){r:Qv}(h:Uc a0 a1=TI r):Ok prog 57 [.agg #[No a0.f.1,a,Pg a0.f.2.2.1,b,No a0.f.2.2.2.2.1,No a0.f.2.2.2.2.2.1,c],.bool a1] w (λv w'=>Ext w w'/\∃i j k,v=.agg #[No r.f.1,i,Pg r.f.2.2.1,j,No r.f.2.2.2.2.1,No r.f.2.2.2.2.2.1,k]/\As .st (un H (nw w w')) i (r.f.2.1)/\As .byte (un H (nw w w')) j (r.f.2.2.2.1)/\As .AN (un H (nw w w')) k (r.f.2.2.2.2.2.2)):=Qxf 1000 w H hH d e g h
end
def J6(_self1:Qv->Option Wl)(self2:(List Qv)->Wl->SB->Option Wl)(a0:Qv):Option Wl:=
 if a0.f.1=1 then Ay (0<=(0:Int)/\(0:Int)<(a0.f.2.1.length:Int)) (TI (a0.f.2.1.getD ((0:Int).toNat) Qq7))else(if a0.f.1=2 then Xd (WG a0.f.2.1 ([32]:Wl)) (λg=>Ay (([34]:Wl).length+g.length<=9223372036854775807) (Ay ((([34]:Wl)++g).length+([34]:Wl).length<=9223372036854775807) (TI (((([34]:Wl)++g)++([34]:Wl))))))else(if a0.f.1=3 then Ay (0<=(0:Int)/\(0:Int)<(a0.f.2.1.length:Int)) (Ay ((a0.f.2.1.getD ((0:Int).toNat) Qq7).length+([126]:Wl).length<=9223372036854775807) (Xd (WM a0.f.2.2.2.2.1) (λa=>Ay ((a0.f.2.1.getD ((0:Int).toNat) Qq7++([126]:Wl)).length+a.length<=9223372036854775807) (Ay (((a0.f.2.1.getD ((0:Int).toNat) Qq7++([126]:Wl))++a).length+([126]:Wl).length<=9223372036854775807) (Ay (0<=(1:Int)/\(1:Int)<(a0.f.2.1.length:Int)) (Ay ((((a0.f.2.1.getD ((0:Int).toNat) Qq7++([126]:Wl))++a)++([126]:Wl)).length+(a0.f.2.1.getD ((1:Int).toNat) Qq7).length<=9223372036854775807) (TI (((((a0.f.2.1.getD ((0:Int).toNat) Qq7++([126]:Wl))++a)++([126]:Wl))++a0.f.2.1.getD ((1:Int).toNat) Qq7)))))))))else(if a0.f.1=4 then Xd (Kj a0.f.2.2.2.1) (λh=>TI h)else(if a0.f.1=5 then Ay (([47]:Wl).length+a0.f.2.2.1.length<=9223372036854775807) (TI ((([47]:Wl)++a0.f.2.2.1)))else(if a0.f.1=6 then Ay (([47]:Wl).length+a0.f.2.2.1.length<=9223372036854775807) (Ay ((([47]:Wl)++a0.f.2.2.1).length+([61]:Wl).length<=9223372036854775807) (Xd (WM a0.f.2.2.2.2.1) (λb=>Ay (((([47]:Wl)++a0.f.2.2.1)++([61]:Wl)).length+b.length<=9223372036854775807) (Ay ((((([47]:Wl)++a0.f.2.2.1)++([61]:Wl))++b).length+([46,46]:Wl).length<=9223372036854775807) (Xd (WM a0.f.2.2.2.2.2.1) (λc=>Ay (((((([47]:Wl)++a0.f.2.2.1)++([61]:Wl))++b)++([46,46]:Wl)).length+c.length<=9223372036854775807) (TI ((((((([47]:Wl)++a0.f.2.2.1)++([61]:Wl))++b)++([46,46]:Wl))++c)))))))))else(if a0.f.1=7 then Ay (([47]:Wl).length+a0.f.2.2.1.length<=9223372036854775807) (Ay ((([47]:Wl)++a0.f.2.2.1).length+([61]:Wl).length<=9223372036854775807) (Xd (Kj a0.f.2.2.2.1) (λd=>Ay (((([47]:Wl)++a0.f.2.2.1)++([61]:Wl)).length+d.length<=9223372036854775807) (TI ((((([47]:Wl)++a0.f.2.2.1)++([61]:Wl))++d))))))else(if a0.f.1=8 then Xd (self2 a0.f.2.2.2.2.2.2 ([38]:Wl) ([9])) (λi=>TI i)else(if a0.f.1=9 then Xd (self2 a0.f.2.2.2.2.2.2 ([124]:Wl) ([])) (λj=>TI j)else Xd (self2 a0.f.2.2.2.2.2.2 ([]:Wl) ([8,9])) (λe=>Ay (([33]:Wl).length+e.length<=9223372036854775807) (TI ((([33]:Wl)++e))))))))))))
def AmK{self1:Qv->Option Wl}{self2:(List Qv)->Wl->SB->Option Wl}(_hself1:∀(w:World) (H:PH) (hH:Le H (hp w)) (hU:E1 H) {a0:Qv}{a:Value}{d:Value}{e:Value} (g:As .st H a (a0.f.2.1)) (m:As .byte H d (a0.f.2.2.2.1)) (j:As .AN H e (a0.f.2.2.2.2.2.2)) {r:Wl} (h:self1 a0=TI r),Ok prog 51 [.agg #[No a0.f.1,a,Pg a0.f.2.2.1,d,No a0.f.2.2.2.2.1,No a0.f.2.2.2.2.2.1,e]] w (λv w'=>Ext w w'/\v=(Pg r)))(hself2:∀(w:World) (H:PH) (hH:Le H (hp w)) (hU:E1 H) {a0:List Qv}{a1:Wl}{a2:SB}{a:Value}{o:Value} (g:As .AN H a a0) (_h2_0:As (.int .i64) H o a2) {r:Wl} (h:self2 a0 a1 a2=TI r),Ok prog 99 [a,Pg a1,o] w (λv w'=>Ext w w'/\v=(Pg r)))(w:World)(H:PH)(hH:Le H (hp w))(hU:E1 H){a0:Qv}{a d e:Value}(g:As .st H a (a0.f.2.1))(m:As .byte H d (a0.f.2.2.2.1))(j:As .AN H e (a0.f.2.2.2.2.2.2)){r:Wl}(h:J6 self1 self2 a0=TI r):
  Ok prog 51 [.agg #[No a0.f.1,a,Pg a0.f.2.2.1,d,No a0.f.2.2.2.2.1,No a0.f.2.2.2.2.2.1,e]] w (λv w'=>Ext w w'/\v=(Pg r)):=by
 refine Ai 86 [(0,.agg #[No a0.f.1,a,Pg a0.f.2.2.1,d,No a0.f.2.2.2.2.1,No a0.f.2.2.2.2.2.1,e])] func51 Z λhL=>A5<|B6 (t:=27) Z Z hL λw1 b1 b bz _=>AR ?_;refine Ar h ?_ ?_<;>intro bn h
 ·refine Af ?_;refine Ag h λy h=>A1 g ((0:Int).toNat) (BP y) (An y) ?_;rintro p4 _ rfl bo;refine sH bo (hH.trans b.arg)<|Bu
 refine Bx 2 Z<|Ar h ?_ ?_<;>intro bp h
 ·refine Af ?_;refine Ah h λx9 bq h=>Al b (Abj _ _ (Ae b) (g.mono  Ad) bq) λcg b0 b2 br=>Ag h λz h=>AJ (De z)<|Ag h λaa h=>AJ (De aa)<|Bu
 refine Bx 2 Z<|Ar h ?_ ?_<;>intro ab h
 ·refine BF (Zt 0 16 (.tail 16)) mixed SF (λch ac=>?_);have c:=b.call ac;refine Bh Z (A7 Z Vv Z Up.e) Z<|Bh Z (AG 0 Z c Z) Z<|Ag h λp h=>Cj Z Z Z Jk g ((0:Int).toNat) (BP p) (An p) Z ?_;rintro ci _ rfl ad;refine Bh Z (B5 ad (hH.trans c.arg)) Z<|Ag h λae h=>Bh Z (De ae) Z<|Bh Z (A7 Z Vv Z DW.e) Z<|Bh Z (AG 0 Z c Z) Z<|Ah h λcj af h=>DY Z Z Z (λck ag=>Abz _ _ (Le.refl _) (hU.mono (hH.trans (c.call ag).arg)) af)<|Ag h λah h=>Bh Z (De ah) Z<|Ag h λai h=>Bh Z (De ai) Z<|Bh Z (A7 Z Vv Z Up.e) Z<|Bh Z (AG 0 Z c Z) Z<|Ag h λs h=>Cj Z Z Z Jk g ((1:Int).toNat) (BP s) (An s) Z ?_;rintro cl _ rfl aj;refine Bh Z (B5 aj (hH.trans c.arg)) Z<|Ag h λak h=>?_
  refine Bh Z (De ak) Z<|Br 1 Z<|AT (λcm al=>?_);have b3:=c.call al;exact Bu
 refine Bx 2 Z<|Ar h ?_ ?_<;>intro am h
 ·refine Af ?_;refine Ah h λcn an h=>Al b (ClB _ _ (Ae b) (m.mono  Ad) an) λco b4 b5 bs=>Bu
 refine Bx 2 Z<|Ar h ?_ ?_<;>intro ao h
 ·refine Af ?_;refine Ag h λap h=>AJ (De ap)<|Bu
 refine Bx 2 Z<|Ar h ?_ ?_<;>intro aq h
 ·refine BF (Zt 0 14 (.tail 14)) mixed SF (λcp ar=>?_);have i:=b.call ar;refine Bh Z (A7 Z Vv Z E7.e) Z<|Bh Z (AG 0 Z i Z) Z<|Ag h λau h=>Bh Z (De au) Z<|Ag h λav h=>Bh Z (De av) Z<|Bh Z (A7 Z Vv Z DW.e) Z<|Bh Z (AG 0 Z i Z) Z<|Ah h λcq aw h=>DY Z Z Z (λcr ax=>Abz _ _ (Le.refl _) (hU.mono (hH.trans (i.call ax).arg)) aw)<|Ag h λay h=>Bh Z (De ay) Z<|Ag h λaz h=>Bh Z (De az) Z<|Bh Z (A7 Z Vv Z DW.e) Z<|Bh Z (AG 0 Z i Z) Z<|Ah h λcs a3 h=>DY Z Z Z (λct a4=>Abz _ _ (Le.refl _) (hU.mono (hH.trans (i.call a4).arg)) a3)<|Ag h λa5 h=>Bh Z (De a5) Z<|Br 1 Z<|AT (λcu a6=>?_);have b6:=i.call a6;exact Bu
 refine Bx 2 Z<|Ar h ?_ ?_<;>intro a7 h
 ·refine BF (Zt 0 9 (.tail 9)) mixed SF (λcv a8=>?_);have k:=b.call a8;refine Bh Z (A7 Z Vv Z E7.e) Z<|Bh Z (AG 0 Z k Z) Z<|Ag h λa9 h=>Bh Z (De a9) Z<|Ag h λba h=>Bh Z (De ba) Z<|Bh Z (A7 Z Vv Z Nu.e) Z<|Bh Z (AG 0 Z k Z) Z<|Ah h λcw bb h=>DY Z Z Z (λcx bc=>ClB _ _ (Le.refl _) ((m.mono (hH.trans k.arg)).mono bc.le) bb)<|Ag h λbd h=>Bh Z (De bd) Z<|Br 1 Z<|AT (λcy be=>?_);have b7:=k.call be;exact Bu
 refine Bx 2 Z<|Ar h ?_ ?_<;>intro bf h
 ·refine Af ?_;refine Bi [9] (r:=(.int .i64)) (λ_=>Fy _ _) b (.c1 Z .nil) λcz c0 b8 u bt bg=>Ah h λc2 bh h=>Al u (hself2 _ _ (Ae u) (hU.mono  Ad) (j.mono  Ad) bg bh) λc3 b9 ca bu=>Bu
 refine Bx 2 Z<|Ar h ?_ ?_<;>intro bi h
 ·refine Af ?_;refine Ah h λc4 bj h=>Al b (hself2 _ _ (Ae b) (hU.mono  Ad) (j.mono  Ad) (As.nil _ _) bj) λc5 cb cc bv=>Bu
 refine Af ?_;refine Bi [8,9] (r:=(.int .i64)) (λ_=>AeK _ _ _) (hlen:=(Bk 2)) b (.c1 Z (.c1 Z .nil)) λc6 c7 cd x bw bk=>Ah h λc8 bl h=>Al x (hself2 _ _ (Ae x) (hU.mono  Ad) (j.mono  Ad) bk bl) λc9 ce cf bx=>Ag h λbm h=>AJ (De bm)<|Bu
def G1(c:List Wl)(a:Int)(b:Wl):Option (((List Wl)×Int)⊕(Wl)):=
 Ay (Go.E.Dx 16 (c.length+([b]).length)) (Ay (AL (a+1)) (TI (Sum.inl ((c++[b]),(a+1)))))
def Jm(a1:Wl)(b:List Wl):Option Wl:=
 Xd (WG b a1) (λa=>TI a)
def Dk(a0:List Qv)(a1:Wl)(a2:SB)(self1:Qv->Option Wl):(List Wl)×Int->Option (((List Wl)×Int)⊕(Wl)):=λ⟨c,a⟩=>
 if a<(a0.length:Int)then Ay (0<=a/\a<(a0.length:Int)) (Xd (self1 (a0.getD a.toNat Qq7)) (λb=>Xd (By a2 ((a0.getD a.toNat Qq7).f.1)) (λd=>if d then Ay (([40]:Wl).length+b.length<=9223372036854775807) (Ay ((([40]:Wl)++b).length+([41]:Wl).length<=9223372036854775807) ((G1 c a) ((([40]:Wl)++b)++([41]:Wl))))else(G1 c a) b)))else Sh Sum.inr ((Jm a1) c)
def Nk(a0:List Qv)(a1:Wl)(a2:SB)(self1:Qv->Option Wl)(s:(List Wl)×Int):Option Wl:=Go.L.run (Dk a0 a1 a2 self1) s
def IC(self1:Qv->Option Wl)(_self2:(List Qv)->Wl->SB->Option Wl)(a0:List Qv)(a1:Wl)(a2:SB):Option Wl:=
 (Nk a0 a1 a2 self1) (([]:List Wl),0)
def Qz4{self1:Qv->Option Wl}{self2:(List Qv)->Wl->SB->Option Wl}(hself1:∀(w:World) (H:PH) (hH:Le H (hp w)) (hU:E1 H) {a0:Qv}{c:Value}{ac:Value}{ad:Value} (z:As .st H c (a0.f.2.1)) (_h0_1:As .byte H ac (a0.f.2.2.2.1)) (_h0_2:As .AN H ad (a0.f.2.2.2.2.2.2)) {r:Wl} (h:self1 a0=TI r),Ok prog 51 [.agg #[No a0.f.1,c,Pg a0.f.2.2.1,ac,No a0.f.2.2.2.2.1,No a0.f.2.2.2.2.2.1,ad]] w (λv w'=>Ext w w'/\v=(Pg r)))(_hself2:∀(w:World) (H:PH) (hH:Le H (hp w)) (hU:E1 H) {a0:List Qv}{a1:Wl}{a2:SB}{c:Value}{j:Value} (z:As .AN H c a0) (ae:As (.int .i64) H j a2) {r:Wl} (h:self2 a0 a1 a2=TI r),Ok prog 99 [c,Pg a1,j] w (λv w'=>Ext w w'/\v=(Pg r)))(w:World)(H:PH)(hH:Le H (hp w))(hU:E1 H){a0:List Qv}{a1:Wl}{a2:SB}{c j:Value}(z:As .AN H c a0)(ae:As (.int .i64) H j a2){r:Wl}(h:IC self1 self2 a0 a1 a2=TI r):
  Ok prog 99 [c,Pg a1,j] w (λv w'=>Ext w w'/\v=(Pg r)):=by
 refine Ai 34 [(0,c),(1,(Pg a1)),(2,j)] func99 Z λhL=>?_;obtain⟨ba,bl,bb⟩:=B3 .st H 9 hL;refine Af ?_;refine AA ((List Wl)×Value×LR) (λ⟨x,p,o⟩=>[(1,(Pg a1)),(7,p)]) (λ⟨x,p,o⟩ wr=>Cd w [.row p 9 1 (x).length o] wr λOz=>Ao .st (gz H w wr Oz) x o/\(Jm a1) x=TI r) ?_ ?_
 ·refine Af ?_;refine A4 ?_;obtain⟨af,h⟩:=Ax h;refine AF ((List Wl)×Int×Value×LR×Nat) (λ⟨g,a,k,e,n⟩=>[(1,(Pg a1)),(2,j),(7,k),(11,c),(12,No (a0.length:Int)),(13,No a)]) (λ⟨g,a,k,e,n⟩ wr=>Cd w [.row k 9 1 (g).length e] wr λOz=>Ao .st (gz H w wr Oz) g e/\D6 (Dk a0 a1 a2 self1) n (g,a)=TI r) (λ⟨g,a,k,e,n⟩=>n) (([]:List Wl),0,TO,[],af) Z ⟨ba,bb,h⟩ ?_;rintro⟨g,a,k,e,nn79⟩ bm ⟨aa,b,h⟩;obtain⟨af,bc,rfl,h,ag⟩:=Aw h;refine AR ?_;refine Ar h ?_ ?_<;>intro a4 h
  ·refine AR ?_;refine Ag h λah h=>A1 z a.toNat (BP ah) (An ah) ?_;rintro bx _ e83t0 a5;obtain⟨_,_,rfl,rfl,⟨_,_,rfl,⟨e83v1,rfl,e83h1⟩,⟨_,_,rfl,rfl,⟨_,_,rfl,⟨e83v3,rfl,e83h3⟩,⟨_,_,rfl,rfl,⟨_,_,rfl,rfl,⟨e83v6,rfl,e83h6⟩⟩⟩⟩⟩⟩⟩:=Go.E.Rp.C2 e83t0;refine AJ (AU a5 (hH.trans aa.arg))<|Aq Bs.e Z aa λbz bd a6 q _=>Ac 0 Z a6 Z (a:=(AV Z (AV e83h1.one (AV Z (AV e83h3.one (AV Z (AV Z (AV e83h6.one JO)))))))) λb0 ai s=>Af ?_;refine Ah h λa3 a7 h=>Al ai (hself1 (a0:=(a0.getD a.toNat Qq7)) _ _ (Ae ai) (hU.mono  Ad) (e83h1.mono  Ad) (e83h3.mono  Ad) (e83h6.mono  Ad) a7) λb1 bn aj t=>BJ 1 Z ?_
   refine AA Wl (λd=>[(1,(Pg a1)),(2,j),(7,k),(10,(Pg d)),(11,c),(12,No (a0.length:Int)),(13,No a)]) (λd wr=>Cd w [.box bd [No ((a0.getD a.toNat Qq7).f.1),e83v1,.string ⟨((a0.getD a.toNat Qq7).f.2.2.1).toArray⟩,e83v3,No ((a0.getD a.toNat Qq7).f.2.2.2.2.1),No ((a0.getD a.toNat Qq7).f.2.2.2.2.2.1),e83v6] 27,.row k 9 1 (g).length e] wr λOz=>Ao .st (gz H w wr Oz) g e/\(G1 g a) d=TI bc) ?_ ?_
   ·refine Af ?_;refine Ah h λbo am h=>Al aj (FI _ _ (Ae aj) (ae.mono  Ad) am) λbp bg ab y=>Ap<|AH h ?_ ?_<;>intro an h
    ·refine Af ?_;refine Ag h λao h=>AJ (De ao)<|Ag h λap h=>AJ (De ap)<|Af ?_;have b:=b.mono (Aa (q.trans (s.trans (t.trans y))));refine Am _ ⟨ab,b,h⟩
    refine Ca ?_;have b:=b.mono (Aa (q.trans (s.trans (t.trans y))));refine Am _ ⟨ab,b,h⟩
   have b:=b.mono (Aa (q.trans (s.trans t)));rintro d bq ⟨a8,b,h⟩;refine Af ?_;refine Bi [d] (r:=.st) (λ_=>Kr _ Z _) a8 (.c1 Z .nil) λbr bs bh aq ak ar=>Ag h λau h=>?_;have b:=b.mono (Aa ak);refine Bf (r:=.st) 1 g [d] Z Jk aq Z b ar au λa9 bt av aw be u=>Ag h λbi h=>Af ?_;have ax:=aw.dT 0 Z;have h:=AX.again h ag;have u:=u.mono (Aa (fz_dT 0 Z));refine Ak (_,_,_,_,_) Z ⟨ax,u,h⟩
  have h:=AX.out h ag;refine Af ?_;refine Am (_,_,_) ⟨aa,b,h⟩
 rintro⟨x,p,o⟩ bu ⟨al,ay,h⟩;refine FA 2 Z<|Ah h λbv az h=>Al al (Abj _ _ (Le.refl _) (al.Jv hH (i:=0) Z ay) az) λbw bj bk bf=>Bu
def Cq:Nat->(Qv->Option Wl)×((List Qv)->Wl->SB->Option Wl)
 | 0=>(λ_=>none,λ_ _ _=>none)
 | n+1=>(J6 ((Cq n).1) ((Cq n).2),IC ((Cq n).1) ((Cq n).2))
def Ta:Qv->Option Wl:=(Cq 1000).1
theorem Sub(n:Nat):(∀(w:World) (H:PH) (hH:Le H (hp w)) (hU:E1 H) {a0:Qv}{a:Value}{b:Value}{c:Value} (e:As .st H a (a0.f.2.1)) (g:As .byte H b (a0.f.2.2.2.1)) (i:As .AN H c (a0.f.2.2.2.2.2.2)) {r:Wl} (h:((Cq n).1) a0=TI r),Ok prog 51 [.agg #[No a0.f.1,a,Pg a0.f.2.2.1,b,No a0.f.2.2.2.2.1,No a0.f.2.2.2.2.2.1,c]] w (λv w'=>Ext w w'/\v=(Pg r)))/\(∀(w:World) (H:PH) (hH:Le H (hp w)) (hU:E1 H) {a0:List Qv}{a1:Wl}{a2:SB}{a:Value}{d:Value} (e:As .AN H a a0) (j:As (.int .i64) H d a2) {r:Wl} (h:((Cq n).2) a0 a1 a2=TI r),Ok prog 99 [a,Pg a1,d] w (λv w'=>Ext w w'/\v=(Pg r))):=by
 induction n with
 | zero=>exact⟨(by intros;rename_i h;cases h),(by intros;rename_i h;cases h)⟩
 | succ n ih=>exact⟨AmK ih.1 ih.2,Qz4 ih.1 ih.2⟩
section
variable(w:World)(H:PH)(hH:Le H (hp w)) include hH
theorem XPo(hU:E1 H){a0:Qv}{a b c:Value}(d:As .st H a (a0.f.2.1))(e:As .byte H b (a0.f.2.2.2.1))(g:As .AN H c (a0.f.2.2.2.2.2.2)){r:Wl}(h:Ta a0=TI r):Ok prog 51 [.agg #[No a0.f.1,a,Pg a0.f.2.2.1,b,No a0.f.2.2.2.2.1,No a0.f.2.2.2.2.2.1,c]] w (λv w'=>Ext w w'/\v=(Pg r)):=(Sub 1000).1 w H hH hU d e g h
def HL(a0:Qv):Option (Wl×Zv):=
 Xd (Ru a0 (0:Int) (1:Int)) (λa=>if a.2.1=0/\a.2.2=0 then Xd (Ta a0) (λb=>if 200<(b.length:Int)then Xd (C5 (14:Int) (-1:Int)) (λc=>TI (([]:Wl),(c.1,c.2)))else TI (b,(0,0)))else TI (([]:Wl),(a.2.1,a.2.2)))
theorem Kx(hU:E1 H)(a0:Qv){a b c:Value}(e:As .st H a (a0.f.2.1))(g:As .byte H b (a0.f.2.2.2.1))(i:As .AN H c (a0.f.2.2.2.2.2.2)){r:Wl×Zv}(h:HL a0=TI r):
  Pd 20 [.agg #[No a0.f.1,a,Pg a0.f.2.2.1,b,No a0.f.2.2.2.2.1,No a0.f.2.2.2.2.2.1,c]] w (λv w'=>v=.tuple #[Pg r.1,.agg #[No r.2.1,No r.2.2]]):=by
 refine Ai 24 [(0,.agg #[No a0.f.1,a,Pg a0.f.2.2.1,b,No a0.f.2.2.2.2.1,No a0.f.2.2.2.2.2.1,c])] func20 Z λhL=>A5<|B6 (t:=27) Z Z hL λw1 b1 ab am _=>AK 1 Z<|Aq Av.e Z ab λw2 b2 p an _=>AR ?_;refine Ah h λx3 ac h=>Al p (QxC (a0:=a0) _ _ (Ae p) (hU.mono  Ad) (e.mono  Ad) (g.mono  Ad) (i.mono  Ad) ac) λw4 av ad ao=>AK 3 Z<|Aq Av.e Z ad λw5 b5 ae ap _=>AK 1 Z<|Ac 0 Z ae Z λw6 j aq=>Af ?_;refine AJ (A8 (λ_=>Bo _))<|AJ (I4 Ge (KO _ _ _ _))<|Ap<|Bt h ?_ ?_<;>intro af h
 ·refine BF (.q 0 (.q 1 (.tail 2))) mixed SF (λw9 ag=>?_);have k:=j.call ag;refine Bh Z (C6 0 Z Av.e k Z) Z<|Br 1 Z<|AT (λaw s=>?_);have u:=k.call s;refine Ac 1 Z u Z λax l ah=>Af ?_
  cases h
  refine AP (.tmp Z) (.cell Z QW Z Av.e (box_pT 1 l Z)) ⟨l.ext,Z⟩
 refine Af ?_;refine Ah h λay x h=>Al j (XPo (a0:=a0) _ _ (Ae j) (hU.mono  Ad) (e.mono  Ad) (g.mono  Ad) (i.mono  Ad) x) λaz ar d ai=>AR ?_;refine AJ (Dn Z)<|BJ 1 Z<|Ar h ?_ ?_<;>intro y h
 ·refine A5<|Ah h λa1 z h=>Al d (Cp _ _ (Ae d) z) λa2 au aa aj=>AK 1 Z<|Ac 1 Z aa Z λa3 m ak=>Af ?_
  cases h
  refine AP (.tmp Z) (.cell Z QW Z Av.e (box_pT 1 m Z)) ⟨m.ext,Z⟩
 refine Af ?_;refine AJ (A8 (λ_=>Bo _))<|AK 1 Z<|Ac 1 Z d Z λa4 o al=>Af ?_
 cases h
 refine AP (.tmp Z) (.cell Z QW Z Av.e (box_pT 1 o Z)) ⟨o.ext,Z⟩
def Gk(a0:Qv):Option Z7:=
 Xd (HL a0) (λa=>TI ((a.2.1,a.2.2)))
theorem K8(hU:E1 H){a0:Qv}{a b c:Value}(g:As .st H a (a0.f.2.1))(i:As .byte H b (a0.f.2.2.2.1))(j:As .AN H c (a0.f.2.2.2.2.2.2)){r:Z7}(h:Gk a0=TI r):
  Pd 29 [.agg #[No a0.f.1,a,Pg a0.f.2.2.1,b,No a0.f.2.2.2.2.1,No a0.f.2.2.2.2.2.1,c]] w (λv w'=>v=.agg #[No r.1,No r.2]):=by
 refine Ai 11 [(0,.agg #[No a0.f.1,a,Pg a0.f.2.2.1,b,No a0.f.2.2.2.2.1,No a0.f.2.2.2.2.2.1,c])] func29 Z λhL=>A5<|B6 (t:=27) Z Z hL λw1 b1 k q _=>Aq Av.e Z k λw2 b2 d s _=>Af ?_;refine Ah h λx3 l h=>Al d (Kx _ _ (Ae d) (hU.mono  Ad) a0 (g.mono  Ad) (i.mono  Ad) (j.mono  Ad) l) λw4 aa m u=>AK 3 Z<|Aq Av.e Z m λw5 b5 o x _=>AK 1 Z<|Ac 0 Z o Z λw6 p y=>Af ?_;refine Ac 1 Z p Z λw7 e z=>Af ?_
 cases h
 refine Bz (.cell Z QW Z Av.e (box_pT 1 e Z)) ⟨e.ext,Z⟩
def CkP(a0:Qv):Option (Qv×Zv):=
 Xd (Gk a0) (λc=>if c.1=0/\c.2=0 then Xd (Uc a0 false) (λa=>Xd (Gk a) (λb=>if b.1=0/\b.2=0 then TI (a,(0,0))else none))else none)
theorem Am6(hU:E1 H){a0:Qv}{j k l:Value}(q:As .st H j (a0.f.2.1))(s:As .byte H k (a0.f.2.2.2.1))(u:As .AN H l (a0.f.2.2.2.2.2.2)){r:Qv×Zv}(h:CkP a0=TI r):
  Pd 24 [.agg #[No a0.f.1,j,Pg a0.f.2.2.1,k,No a0.f.2.2.2.2.1,No a0.f.2.2.2.2.2.1,l]] w (λv w'=>∃u0 u1 u2,v=.tuple #[.agg #[No r.1.f.1,u0,Pg r.1.f.2.2.1,u1,No r.1.f.2.2.2.2.1,No r.1.f.2.2.2.2.2.1,u2],.agg #[No r.2.1,No r.2.2]]/\As .st (un H (nw w w')) u0 (r.1.f.2.1)/\As .byte (un H (nw w w')) u1 (r.1.f.2.2.2.1)/\As .AN (un H (nw w w')) u2 (r.1.f.2.2.2.2.2.2)):=by
 refine Ai 25 [(0,.agg #[No a0.f.1,j,Pg a0.f.2.2.1,k,No a0.f.2.2.2.2.1,No a0.f.2.2.2.2.2.1,l])] func24 Z λhL=>A5<|B6 (t:=27) Z Z hL λw1 b1 au a6 _=>Aq Bs.e Z au λw2 b2 av a7 _=>Aq Av.e Z av λw3 b3 af a8 _=>AR ?_;refine Ah h λx4 aw h=>Al af (K8 (a0:=a0) _ _ (Ae af) (hU.mono  Ad) (q.mono  Ad) (s.mono  Ad) (u.mono  Ad) aw) λw5 bd ax a9=>Aq Av.e Z ax λw6 b6 ay ba _=>Ac 0 Z ay Z λw7 i bb=>Af ?_;refine AJ (A8 (λ_=>Bo _))<|AJ (I4 Ge (KO _ _ _ _))<|Ap<|Bt h ?_ ?_<;>intro az h
 ·cases h
 refine Af ?_;refine Ah h λa1 ag h=>A9 i (QkZ (a0:=a0) _ _ (Ae i) (q.mono  Ad) (s.mono  Ad) (u.mono  Ad) ag) ?_;rintro _ be ⟨a2,a3,a4,rfl,x,y,z⟩ m ah a5;have b:=x.mono (Da i m);have c:=y.mono (Da i m);have d:=z.mono (Da i m);refine Aq Bs.e Z ah λbf bg ai e _=>Ac 0 Z ai Z (a:=(AV Z (AV b.one (AV Z (AV c.one (AV Z (AV Z (AV d.one JO)))))))) ?_;intro bh o g;have a:=o.rG H;refine AR ?_;refine Ah h λbi aj h=>?_;have b:=b.mono (Aa (e.trans g));have c:=c.mono (Aa (e.trans g));have d:=d.mono (Aa (e.trans g));refine Al o (K8 (a0:=a1) _ _ (Ae o) (hU.mono  Ad) (b.mono a) (c.mono a) (d.mono a) aj) λbj bc ak aa=>Aq Av.e Z ak λbk bl al ab _=>Ac 0 Z al Z λbm am ac=>Af ?_;refine AJ (A8 (λ_=>Bo _))<|AJ (I4 Ge (KO _ _ _ _))<|Ap<|Bt h ?_ ?_<;>intro an h
 ·cases h
 refine Af ?_;refine AJ (A8 (λ_=>Bo _)) ?_;have a:=a.trans (Aa (aa.trans (ab.trans ac)));refine Ac 4 Z am Z (a:=(AV Z (AV (b.mono a).one (AV Z (AV (c.mono a).one (AV Z (AV Z (AV (d.mono a).one JO)))))))) λbn ao ad=>Ac 3 Z ao Z λbo p ae=>Af ?_
 cases h
 refine AP (.cell Z Vv Z Bs.e (box_pT 4 p Z)) (.cell Z QW Z Av.e (box_pT 3 p Z)) ?_;have a:=a.trans (Aa (ad.trans ae));exact⟨p.ext,_,_,_,Z,((b.mono a).mono  Dl),((c.mono a).mono  Dl),((d.mono a).mono  Dl)⟩
end
end Go.Proofs.YtgaljodghpgdmaaGreatDoor
end
noncomputable section
namespace Go
abbrev Xl:=Go.E.Rp.pair (Go.E.Rp.vec (Go.E.Rp.int .i64)) (Go.E.Rp.pair (Go.E.Rp.vec (Go.E.Rp.int .i64)) (Go.E.Rp.vec (Go.E.Rp.int .i64)))
end Go
namespace Go
abbrev PR:=(Int×Xg)×(Int×SS)×(List YK)
end Go
namespace Go.Proofs.YtgaljodghpgdmaaGreatDoor
open Go Go.E Go.RowKit Go.L
set_option maxHeartbeats 1000000
set_option maxRecDepth 10000
open _root_.Go.Proofs.Tryz
def N4(a:Int)(b:List YK)(c:List Pv)(d:List Wl):Option (((List Pv)×(List Wl)×(List YK)×Int)⊕(PR×Zv)):=
 Ay (AL (a+1)) (TI (Sum.inl (c,d,b,(a+1))))
def Gl(h:List YK)(b c d:Int)(e:Xg)(f:Int)(g:SS):Option (PR×Zv):=
 if b=0/\c=0 then TI (((d,e),(f,g),h),(0,0))else Xd (C5 (14:Int) (-1:Int)) (λa=>TI (((0,[]),(0,[]),[]),(a.1,a.2)))
def Ky(d:List Pv)(e:List Wl)(c:List YK):Option (PR×Zv):=
 Xd (Na e) (λa=>if a.2.1=0/\a.2.2=0 then Xd (Og d) (λb=>(Gl c) b.2.1 b.2.2 a.1.1 a.1.2 b.1.1 b.1.2)else(Gl c) a.2.1 a.2.2 a.1.1 a.1.2 (0:Int) ([]))
def CY(a0:List (Wl×Pv)):(List Pv)×(List Wl)×(List YK)×Int->Option (((List Pv)×(List Wl)×(List YK)×Int)⊕(PR×Zv)):=λ⟨c,d,e,a⟩=>
 if a<(a0.length:Int)then Ay (0<=a/\a<(a0.length:Int)) (Xd (MJ ((a0.getD a.toNat Qq7).1)) (λb=>if b.2.1=0/\b.2.2=0 then Xd (CO ((a0.getD a.toNat Qq7).2)) (λf=>if f.1=0/\f.2=0 then Ay (Go.E.Dx 72 (e.length+([(b.1.1,b.1.2.1,b.1.2.2)]).length)) (Ay (Go.E.Dx 24 (d.length+([(a0.getD a.toNat Qq7).1]).length)) (Ay (Go.E.Dx 88 (c.length+([((a0.getD a.toNat Qq7).2)]).length)) ((N4 a) (e++[(b.1.1,b.1.2.1,b.1.2.2)]) (c++[((a0.getD a.toNat Qq7).2)]) (d++[(a0.getD a.toNat Qq7).1]))))else Xd (C5 f.1 a) (λg=>Sh Sum.inr (TI (((0,[]),(0,[]),[]),(g.1,g.2)))))else Xd (C5 b.2.1 a) (λh=>Sh Sum.inr (TI (((0,[]),(0,[]),[]),(h.1,h.2))))))else Sh Sum.inr (Ky c d e)
def N5(a0:List (Wl×Pv))(s:(List Pv)×(List Wl)×(List YK)×Int):Option (PR×Zv):=Go.L.run (CY a0) s
def L7(a0:List (Wl×Pv)):Option (PR×Zv):=
 if 64<(a0.length:Int)then Xd (C5 (2:Int) (-1:Int)) (λa=>TI (((0,[]),(0,[]),[]),(a.1,a.2)))else(N5 a0) (([]:List Pv),([]:List Wl),([]:List YK),0)
set_option maxHeartbeats 8000000 in
section
variable(w:World)(H:PH)(hH:Le H (hp w)) include hH
theorem QjK(hU:E1 H){a0:List (Wl×Pv)}{b0:Value}(e1:As (.pair (.vec .byte) .tree) H b0 a0){r:PR×Zv}(h:L7 a0=TI r):
  Pd 4 [b0] w (λv w'=>∃u0 u1 u2,v=.tuple #[.agg #[No r.1.1.1,u0,No r.1.2.1.1,u1,u2],.agg #[No r.2.1,No r.2.2]]/\As (.pair .st (.vec TD)) (un H (nw w w')) u0 (r.1.1.2)/\As (.pair Xp (.vec (.int .i64))) (un H (nw w w')) u1 (r.1.2.1.2)/\B2 63 Xl H w w' u2 (r.1.2.2)):=by
 refine Ai 89 [(0,b0)] func4 Z λhL=>A5<|Aq QM.e Z hL λw1 b1 ff ge _=>Aq Av.e Z ff λw2 b2 dc gf _=>AR ?_;refine Ar h ?_ ?_<;>intro fg h
 ·refine A5<|AJ (A8 (λ_=>X4 _))<|Ah h λx5 fh h=>Al dc (Cp _ _ (Ae dc) fh) λw6 g5 fi gg=>Ac 1 Z fi Z λw7 fj gh=>Ac 0 Z fj Z λw8 dd gi=>Af ?_
  cases h
  refine AP (.cell Z Sf Z QM.e (box_pT 1 dd Z)) (.cell Z QW Z Av.e (box_pT 0 dd Z)) ⟨dd.ext,_,_,_,Z,(As.nil _ _),(As.nil _ _),B2.nil⟩
 refine Af ?_;refine Aq QM.e Z dc ?_;intro g6 aw e2 fs _;obtain⟨e3,ft,cq⟩:=B3 (.vec .byte) H 24 e2;obtain⟨e4,eb,cr⟩:=B3 .tree H 54 e3;refine Af ?_;refine AA ((List Pv)×(List Wl)×(List YK)×Value×LR×Value×LR×Value×LR) (λ⟨b3,b4,ag,bn,a1,bo,a2,al,ac⟩=>[(2,(SX b1)),(3,(SX b2)),(4,(SX aw)),(5,bo),(6,bn)]) (λ⟨b3,b4,ag,bn,a1,bo,a2,al,ac⟩ wr=>Cd w [.row al 63 3 (ag).length ac,.row bn 54 5 (b3).length a1,.row bo 24 1 (b4).length a2,.box aw [No 0,TO,No 0,TO,al] 37,.box b2 [No 0,No 0] 39,.box b1 [No 0,TO,No 0,TO,TO] 37] wr λOz=>Ao Xl (gz H w wr Oz) ag ac/\Ao .tree (gz H w wr Oz) b3 a1/\Ao (.vec .byte) (gz H w wr Oz) b4 a2/\Ky b3 b4 ag=TI r) ?_ ?_
 ·refine Af ?_;refine A4 ?_;obtain⟨ec,ck,ed⟩:=B3 Xl H 63 e4;obtain⟨cs,h⟩:=Ax h;have cq:=cq.mono (Aa (eb.trans ck));have cr:=cr.mono (Aa ck)
  refine AF ((List Pv)×(List Wl)×(List YK)×Int×Value×LR×Value×LR×Value×LR×Nat) (λ⟨y,aa,ab,a,ad,k,ae,o,g,p,n⟩=>[(2,(SX b1)),(3,(SX b2)),(4,(SX aw)),(5,ae),(6,ad),(18,b0),(19,No (a0.length:Int)),(20,No a)]) (λ⟨y,aa,ab,a,ad,k,ae,o,g,p,n⟩ wr=>Cd w [.row g 63 3 (ab).length p,.row ad 54 5 (y).length k,.row ae 24 1 (aa).length o,.box aw [No 0,TO,No 0,TO,g] 37,.box b2 [No 0,No 0] 39,.box b1 [No 0,TO,No 0,TO,TO] 37] wr λOz=>Ao Xl (gz H w wr Oz) ab p/\Ao .tree (gz H w wr Oz) y k/\Ao (.vec .byte) (gz H w wr Oz) aa o/\D6 (CY a0) n (y,aa,ab,a)=TI r) (λ⟨y,aa,ab,a,ad,k,ae,o,g,p,n⟩=>n) (([]:List Pv),([]:List Wl),([]:List YK),0,TO,[],TO,[],TO,[],cs) Z ⟨ec,ed,cr,cq,h⟩ ?_
  rintro⟨y,aa,ab,a,ad,k,ae,o,g,p,nn640⟩ fu ⟨bp,cl,cm,cn,h⟩;obtain⟨cs,e5,rfl,h,bq⟩:=Aw h;have t:=bp.rG H;refine AR ?_;refine Ar h ?_ ?_<;>intro ee h
  ·refine AR ?_;refine Ag h λcx h=>A1 e1 a.toNat (BP cx) (An cx) ?_;rintro gj _ ⟨_,_,rfl,⟨e646v0,rfl,e646h0⟩,e646t1⟩ ef;obtain⟨_,_,rfl,rfl,⟨_,_,rfl,rfl,⟨_,_,rfl,⟨e646v3,rfl,e646h3⟩,⟨_,_,rfl,⟨e646v4,rfl,e646h4⟩,⟨e646v5,rfl,e646h5⟩⟩⟩⟩⟩:=Go.E.Rp.F6 e646t1;refine AJ (AU ef (hH.trans bp.arg))<|Aq WZ.e Z bp λgk ct eg de _=>AK 1 Z<|Ac 0 Z eg Z (a:=(AV e646h0.one (AV Z (AV Z (AV e646h3.one (AV e646h4.one (AV e646h5.one JO))))))) λgl a3 df=>Af ?_;refine Ah h λc eh h=>A9 a3 (Qx6 _ _ (Ae a3) (e646h0.mono  Ad) eh) ?_;rintro _ gm ⟨a4,a5,a6,rfl,c4,c6,c7⟩ cg ei dg;have am:=c4.mono (Da a3 cg);have an:=c6.mono (Da a3 cg);have ao:=c7.mono (Da a3 cg);refine AK 3 Z<|Aq HY.e Z ei λgn cu ej a7 _=>Aq Av.e Z ej λgo dh ek a8 _=>Ac 1 Z ek Z (a:=(AV am.one (AV an.one (AV ao.one JO)))) λgp el a9=>Ac 0 Z el Z ?_;intro gq ap ba;have u:=ap.rG H
   refine AR ?_;refine AJ (A8 (λ_=>Bo _))<|AJ (I4 Ge (KO _ _ _ _))<|Ap<|Bt h ?_ ?_<;>intro em h
   ·refine A5<|AJ (A8 (λ_=>X4 _))<|Af ?_;refine Ah h λgr en h=>Al ap (Cp _ _ (Ae ap) en) λgs fv eo fk=>Ac 8 Z eo Z λgt ep fl=>Ac 7 Z ep Z ?_;intro gu ch fm;have h:=AX.out h bq;refine Af ?_
    cases h
    refine AP (.cell Z Sf Z QM.e (box_pT 8 ch Z)) (.cell Z QW Z Av.e (box_pT 7 ch Z)) ⟨ch.ext,_,_,_,Z,(As.nil _ _),(As.nil _ _),B2.nil⟩
   refine AR ?_;refine AJ (GR 2 5 Z Is.e ap Z Z)<|Ah h λci eq h=>Al ap (Lx (a0:=((a0.getD a.toNat Qq7).2)) _ _ (Ae ap) (e646h3.mono  Ad) (e646h4.mono  Ad) (e646h5.mono  Ad) eq) λgv fw er di=>Aq Av.e Z er λgw dj es dk _=>Ac 0 Z es Z λgx br dl=>Af ?_;refine AJ (A8 (λ_=>Bo _))<|AJ (I4 Ge (KO _ _ _ _))<|Ap<|Bt h ?_ ?_<;>intro et h
   ·refine A5<|AJ (A8 (λ_=>X4 _))<|Af ?_;refine Ah h λgy eu h=>Al br (Cp _ _ (Ae br) eu) λg0 fx ev fn=>Ac 9 Z ev Z λg1 ew fo=>Ac 8 Z ew Z ?_;intro g2 cj fp;have h:=AX.out h bq;refine Af ?_
    cases h
    refine AP (.cell Z Sf Z QM.e (box_pT 9 cj Z)) (.cell Z QW Z Av.e (box_pT 8 cj Z)) ⟨cj.ext,_,_,_,Z,(As.nil _ _),(As.nil _ _),B2.nil⟩
   refine Af ?_
   refine AhA (σ:=(List YK)×(List Pv)×(List Wl)×Value×LR×Value×LR×Value×LR) (λ⟨bi,bj,bk,bb,ah,bc,ai,bd,aj⟩=>[(2,(SX b1)),(3,(SX b2)),(4,(SX aw)),(5,bd),(6,bc),(18,b0),(19,No (a0.length:Int)),(20,No a)]) (λ⟨bi,bj,bk,bb,ah,bc,ai,bd,aj⟩ wr=>Cd w [.box dj [No ci.1,No ci.2] 39,.box dh [No c.2.1,No c.2.2] 39,.box cu [a4,a5,a6] 63,.box ct [e646v0,No (((a0.getD a.toNat Qq7).2).f.1),No (((a0.getD a.toNat Qq7).2).f.2.1),e646v3,e646v4,e646v5] 56,.row bb 63 3 (bi).length ah,.row bc 54 5 (bj).length ai,.row bd 24 1 (bk).length aj,.box aw [No 0,TO,No 0,TO,bb] 37,.box b2 [No 0,No 0] 39,.box b1 [No 0,TO,No 0,TO,TO] 37] wr λOz=>As (.int .i64) (gz H w wr Oz) a4 (c.1.1)/\As (.int .i64) (gz H w wr Oz) a5 (c.1.2.1)/\As (.int .i64) (gz H w wr Oz) a6 (c.1.2.2)/\Ao Xl (gz H w wr Oz) bi ah/\Ao .tree (gz H w wr Oz) bj ai/\Ao (.vec .byte) (gz H w wr Oz) bk aj/\(N4 a) bi bj bk=TI e5) ?_ ?_
   ·refine Ik (KZ (Ew (VF (Pj (Ew (KZ MF)))))) (λz0 z=>Le (gz H w z0 [.box dj [No ci.1,No ci.2] 39,.box dh [No c.2.1,No c.2.2] 39,.box cu [a4,a5,a6] 63,.box ct [e646v0,No (((a0.getD a.toNat Qq7).2).f.1),No (((a0.getD a.toNat Qq7).2).f.2.1),e646v3,e646v4,e646v5] 56,.row g 63 3 (ab).length p,.row ad 54 5 (y).length k,.row ae 24 1 (aa).length o,.box aw [No 0,TO,No 0,TO,g] 37,.box b2 [No 0,No 0] 39,.box b1 [No 0,TO,No 0,TO,TO] 37]) (hp z)/\z.heap[cu]? = TI (.cells [a4,a5,a6].toArray 63 (0,0))/\z.heap[ct]? = TI (.cells [e646v0,No (((a0.getD a.toNat Qq7).2).f.1),No (((a0.getD a.toNat Qq7).2).f.2.1),e646v3,e646v4,e646v5].toArray 56 (0,0))/\z.heap[aw]? = TI (.cells [No 0,TO,No 0,TO,g].toArray 37 (0,0))) mixed Z (λe g4 cy=>?_);have aq:=br.call cy;have dm:=A3 br cy;have x:=aq.rG H;refine MG ⟨x.trans (Ae aq),aq.aT 2 Z,aq.aT 3 Z,aq.aT 7 Z⟩ λkI840=>?_
    refine Au 0 e kI840 Z (λ_ _=>A7 Z Sf Z AjK.e) Z<|Au 1 e kI840 Z (λ_ hI=>JV Z hI.2.2.2 Z) Z<|Au 2 e kI840 Z (λ_ hI=>MU hI.2.1) Z<|Au 5 e kI840 Z (λ_ _=>Az Z) Z<|Au 6 e kI840 Z (λ_ _=>A7 Z LO Z Nu.e) Z<|Au 7 e kI840 Z (λ_ hI=>JV Z hI.2.2.1 Z) Z<|Au 10 e kI840 Z (λ_ _=>Az Z) Z<|Au 11 e kI840 Z (λ_ _=>A7 Z LO Z Is.e) Z<|Au 12 e kI840 Z (λ_ hI=>Ah8 5 Z Is.e hI.2.2.1 Z) Z ?_;have am:=am.mono (Aa (a7.trans (a8.trans (a9.trans ba))));have an:=an.mono (Aa (a7.trans (a8.trans (a9.trans ba))));have ao:=ao.mono (Aa (a7.trans (a8.trans (a9.trans ba))));have u:=u.trans (Aa (di.trans (dk.trans (dl.trans dm))));have t:=t.trans (Aa (de.trans (df.trans (dg.trans (a7.trans (a8.trans (a9.trans ba)))))))
    refine Ag h λkkA h=>Ag h λkkB h=>Ag h λkkC h=>?_;have eA:=(((cl.mono t).mono u).mono x);have eB:=(((cn.mono t).mono u).mono x);have eC:=(((cm.mono t).mono u).mono x);have ax:=(am.mono u).mono x;have ay:=(an.mono u).mono x;have az:=(ao.mono u).mono x;have hLc:=aq;have kIc:=kI840;have hGc:=x
    repeat' first
     | refine Au 15 e kIc (hc:=(by decide +kernel)) Z (λ_ _=>A7 Z Sf Z AjK.e) Z ?_
     | refine We 3 8 13 Z (by decide +kernel) Z Z ?_ ?_ ?_
     | refine We 3 8 14 Z (by decide +kernel) Z Z ?_ ?_ ?_
     | refine Pe 3 8 Z (by decide +kernel) Z ?_ ?_
     | refine We 3 9 13 Z (by decide +kernel) Z Z ?_ ?_ ?_
     | refine We 3 9 14 Z (by decide +kernel) Z Z ?_ ?_ ?_
     | refine Pe 3 9 Z (by decide +kernel) Z ?_ ?_
     | refine Pe 3 13 Z (by decide +kernel) Z ?_ ?_
     | refine Pe 3 14 Z (by decide +kernel) Z ?_ ?_
     | refine Jr 3 Z (hr:=(by decide +kernel)) ?_
     | refine We 4 8 13 Z (by decide +kernel) Z Z ?_ ?_ ?_
     | refine We 4 8 14 Z (by decide +kernel) Z Z ?_ ?_ ?_
     | refine Pe 4 8 Z (by decide +kernel) Z ?_ ?_
     | refine We 4 9 13 Z (by decide +kernel) Z Z ?_ ?_ ?_
     | refine We 4 9 14 Z (by decide +kernel) Z Z ?_ ?_ ?_
     | refine Pe 4 9 Z (by decide +kernel) Z ?_ ?_
     | refine Pe 4 13 Z (by decide +kernel) Z ?_ ?_
     | refine Pe 4 14 Z (by decide +kernel) Z ?_ ?_
     | refine Jr 4 Z (hr:=(by decide +kernel)) ?_
     | refine Pe 8 13 Z (by decide +kernel) Z ?_ ?_
     | refine Pe 8 14 Z (by decide +kernel) Z ?_ ?_
     | refine Jr 8 Z (hr:=(by decide +kernel)) ?_
     | refine Pe 9 13 Z (by decide +kernel) Z ?_ ?_
     | refine Pe 9 14 Z (by decide +kernel) Z ?_ ?_
     | refine Jr 9 Z (hr:=(by decide +kernel)) ?_
     | refine Jr 13 Z (hr:=(by decide +kernel)) ?_
     | refine Jr 14 Z (hr:=(by decide +kernel)) ?_
     | ((first
        | (refine Bi [(c.1.1,c.1.2.1,c.1.2.2)] (r:=Xl) (λ_=>AjV _ _ _ _) hLc (.c3 ⟨_,_,Z,⟨_,Z,ax⟩,⟨_,_,Z,⟨_,Z,ay⟩,⟨_,Z,az⟩⟩⟩ .nil) ?_;intro lAv wc hx hLc hle lA)
        | (refine Bi [(a0.getD a.toNat Qq7).1] (r:=(.vec .byte)) (λ_=>AaQ _ e646h0.one _) hLc (.c1 ⟨_,Z,(e646h0.mono  Ad)⟩ .nil) ?_;intro lBv wc hx hLc hle lB)
        | (refine Bi [((a0.getD a.toNat Qq7).2)] (r:=.tree) (λ_=>AeM _ _ _ _ _ _) hLc (.c5 (Go.E.Rp.O6 ⟨_,_,Z,Z,⟨_,_,Z,Z,⟨_,_,Z,⟨_,Z,(e646h3.mono  Ad)⟩,⟨_,_,Z,⟨_,Z,(e646h4.mono  Ad)⟩,⟨_,Z,(e646h5.mono  Ad)⟩⟩⟩⟩⟩) .nil) ?_;intro lCv wc hx hLc hle lC)
        );have hGc:=hGc.trans (Aa hle);have eA:=eA.mono (Aa hle);have eB:=eB.mono (Aa hle);have eC:=eC.mono (Aa hle);have ax:=ax.mono (Aa hle);have ay:=ay.mono (Aa hle);have az:=az.mono (Aa hle);(try have lA:=lA.mono (Aa hle));(try have lB:=lB.mono (Aa hle));(try have lC:=lC.mono (Aa hle));refine AS ⟨hGc.trans (Ae hLc),hLc.aT 2 Z,hLc.aT 3 Z,hLc.aT 7 Z⟩ λkIc=>?_)
     | ((refine Bf (r:=Xl) 4 ab [(c.1.1,c.1.2.1,c.1.2.2)] Z Ag9 hLc Z eA lA kkA ?_;intro vA wc xsA hLc hle eAn);have hGc:=hGc.trans (Aa hle);have eB:=eB.mono (Aa hle);have eC:=eC.mono (Aa hle);have ax:=ax.mono (Aa hle);have ay:=ay.mono (Aa hle);have az:=az.mono (Aa hle);have eA:=eAn;(try have lA:=lA.mono (Aa hle));(try have lB:=lB.mono (Aa hle));(try have lC:=lC.mono (Aa hle));refine AS ⟨hGc.trans (Ae hLc),hLc.aT 2 Z,hLc.aT 3 Z,hLc.aT 7 Z⟩ λkIc=>?_)
     | ((refine Bf (r:=(.vec .byte)) 6 aa [(a0.getD a.toNat Qq7).1] Z RO hLc Z eB lB kkB ?_;intro vB wc xsB hLc hle eBn);have hGc:=hGc.trans (Aa hle);have eA:=eA.mono (Aa hle);have eC:=eC.mono (Aa hle);have ax:=ax.mono (Aa hle);have ay:=ay.mono (Aa hle);have az:=az.mono (Aa hle);have eB:=eBn;(try have lA:=lA.mono (Aa hle));(try have lB:=lB.mono (Aa hle));(try have lC:=lC.mono (Aa hle));refine AS ⟨hGc.trans (Ae hLc),hLc.aT 2 Z,hLc.aT 3 Z,hLc.aT 7 Z⟩ λkIc=>?_)
     | ((refine Bf (r:=.tree) 5 y [((a0.getD a.toNat Qq7).2)] Z Vz hLc Z eC lC kkC ?_;intro vC wc xsC hLc hle eCn);have hGc:=hGc.trans (Aa hle);have eA:=eA.mono (Aa hle);have eB:=eB.mono (Aa hle);have ax:=ax.mono (Aa hle);have ay:=ay.mono (Aa hle);have az:=az.mono (Aa hle);have eC:=eCn;(try have lA:=lA.mono (Aa hle));(try have lB:=lB.mono (Aa hle));(try have lC:=lC.mono (Aa hle));refine AS ⟨hGc.trans (Ae hLc),hLc.aT 2 Z,hLc.aT 3 Z,hLc.aT 7 Z⟩ λkIc=>?_)
     | (refine Jr 16 Z (hr:=(by decide +kernel)) ?_;refine BW 7 Z Z (row_one (hLc.aT 4 Z)) hLc Z Z ?_;intro wc hLc hle;have hGc:=hGc.trans (Aa hle);have eA:=eA.mono (Aa hle);have eB:=eB.mono (Aa hle);have eC:=eC.mono (Aa hle);have ax:=ax.mono (Aa hle);have ay:=ay.mono (Aa hle);have az:=az.mono (Aa hle);refine AeF [0,1,2,3,4,5,6,7,8,9,10,11,12,13,14,15] SF ?_;refine Jr 17 Z ?_;refine AK 1 Z ?_;refine AeF [0,1,2,3,4,5,6,7,8,9,10,11,12,13,14,15,16] SF ?_;refine Jr 18 Z ?_;refine AK 1 Z ?_;refine Kq ?_;refine FF ?_;exact Am ((ab++[(c.1.1,c.1.2.1,c.1.2.2)]),(y++[((a0.getD a.toNat Qq7).2)]),(aa++[(a0.getD a.toNat Qq7).1]),vA,xsA,vC,xsC,vB,xsB) ⟨hLc,ax,ay,az,eA,eC,eB,h⟩)
   rintro⟨bi,bj,bk,bb,ah,bc,ai,bd,aj⟩ fy ⟨cz,e6,e7,e8,dn,dp,dq,h⟩;have be:=cz.rG H;refine Ag h λfz h=>Af ?_;have ex:=cz.dT 0 Z;have ey:=ex.dT 0 Z;have ez:=ey.dT 0 Z;have e0:=ez.dT 0 Z;have h:=AX.again h bq;have be:=be.trans (Aa ((fz_dT 0 Z).trans ((fz_dT 0 Z).trans ((fz_dT 0 Z).trans (fz_dT 0 Z)))));refine Ak (bj,bk,bi,(a+1),bc,ai,bd,aj,bb,ah,cs) Z ⟨e0,(dn.mono be),(dp.mono be),(dq.mono be),h⟩
  have h:=AX.out h bq;refine Af ?_;refine Am (y,aa,ab,ad,k,ae,o,g,p) ⟨bp,(cl.mono t),(cm.mono t),(cn.mono t),h⟩
 rintro⟨b3,b4,ag,bn,a1,bo,a2,al,ac⟩ f0 ⟨c0,co,dr,ds,h⟩;have b:=c0.rG H;refine A5<|Aq Av.e Z c0 λf1 c2 cp c8 _=>Ap<|AA (Int×Int×Int×Xg×Int×SS×Value×Value) (λ⟨bs,bt,bu,bv,bw,bx,bf,bg⟩=>[(2,(SX b1)),(3,(SX b2)),(4,(SX aw)),(12,(SX c2))]) (λ⟨bs,bt,bu,bv,bw,bx,bf,bg⟩ wr=>Cd w [.box c2 [No bs,No bt] 39,.row al 63 3 (ag).length ac,.box aw [No bu,bf,No bw,bg,al] 37,.box b2 [No 0,No 0] 39,.box b1 [No 0,TO,No 0,TO,TO] 37] wr λOz=>Ao Xl (gz H w wr Oz) ag ac/\As (.pair .st (.vec TD)) (gz H w wr Oz) bf bv/\As (.pair Xp (.vec (.int .i64))) (gz H w wr Oz) bg bx/\(Gl ag) bs bt bu bv bw bx=TI r) ?_ ?_
 ·refine FA 1 Z ?_;have b:=b.trans (Aa c8);have dt:=cp.BB hH (i:=3) Z (ds.mono b);have b5:=cp.dT 3 Z;refine Ah h λar du h=>A9 b5 (Agv _ _ (Ae b5) (hU.mono  Ad) dt du) ?_;rintro _ f2 ⟨b9,rfl,cv⟩ dv dw ca;have d:=cv.mono (Da b5 dv);refine Af ?_;refine ZV 3 0 Z dw Z Z Z (AV Z (AV d.one JO)) λf3 dx au=>Ac 0 Z dx Z λf4 b6 av=>Af ?_;refine AJ (A8 (λ_=>Bo _))<|AJ (W3 Ge (KO _ _ _ _))<|Ap<|Ar h ?_ ?_<;>intro dy h
  ·refine Af ?_;have b:=b.trans (Aa ((fz_dT 3 Z).trans (ca.trans (au.trans av))));have dz:=b6.BB hH (i:=2) Z (dr.mono b);have b7:=b6.dT 2 Z;refine Ah h λbz d0 h=>A9 b7 (Qq4 _ _ (Ae b7) dz d0) ?_;rintro _ f5 ⟨c9,rfl,cw⟩ d1 d2 cb;have af:=cw.mono (Da b7 d1);refine Af ?_;refine ZV 2 2 Z d2 Z Z Z (AV Z (AV af.one JO)) λf6 d3 bl=>Ac 0 Z d3 Z λf7 d4 bm=>HX ?_;have d:=d.mono (Aa (au.trans (av.trans ((fz_dT 2 Z).trans (cb.trans (bl.trans bm))))));have b:=b.trans (Aa ((fz_dT 2 Z).trans (cb.trans (bl.trans bm))));have af:=af.mono (Aa (bl.trans bm));refine Am (bz.2.1,bz.2.2,ar.1.1,ar.1.2,bz.1.1,bz.1.2,b9,c9) ⟨d4,(co.mono b),d,af,h⟩
  refine Ca ?_;have b:=b.trans (Aa ((fz_dT 3 Z).trans (ca.trans (au.trans av))));have d5:=b6.dT 2 Z;have d:=d.mono (Aa (au.trans (av.trans (fz_dT 2 Z))));have b:=b.trans (Aa (fz_dT 2 Z));refine Am (ar.2.1,ar.2.2,ar.1.1,ar.1.2,0,[],b9,TO) ⟨d5,(co.mono b),d,(As.nil _ _),h⟩
 rintro⟨bs,bt,bu,bv,bw,bx,bf,bg⟩ fq ⟨ak,he1024_j424,cc,cd,h⟩;have q:=ak.rG H;refine AR ?_;refine AJ (A8 (λ_=>Bo _))<|AJ (I4 Ge (KO _ _ _ _))<|Ap<|Bt h ?_ ?_<;>intro d6 h
 ·refine A5<|AJ (A8 (λ_=>X4 _))<|Ah h λf8 d7 h=>Al ak (Cp _ _ (Ae ak) d7) λf9 fr d8 e9=>Ac 4 Z d8 Z λga d9 fa=>Ac 3 Z d9 Z λgb b8 fb=>Af ?_
  cases h
  refine AP (.cell Z Sf Z QM.e (box_pT 4 b8 Z)) (.cell Z QW Z Av.e (box_pT 3 b8 Z)) ⟨b8.ext,_,_,_,Z,(As.nil _ _),(As.nil _ _),B2.nil⟩
 refine Af ?_;refine AJ (A8 (λ_=>Bo _))<|Ac 4 Z ak Z (a:=(AV Z (AV (cc.mono q).one (AV Z (AV (cd.mono q).one (AV (row_one (ak.aT 1 Z)) JO)))))) λgc ea da=>Ac 3 Z ea Z λgd bh db=>Af ?_
 cases h
 refine AP (.cell Z Sf Z QM.e (box_pT 4 bh Z)) (.cell Z QW Z Av.e (box_pT 3 bh Z)) ?_;have q:=q.trans (Aa (da.trans db));exact⟨bh.ext,_,_,_,Z,((cc.mono q).mono  Dl),((cd.mono q).mono  Dl),(bh.Ev hH (i:=1) Z (he1024_j424.mono q))⟩
def Bc(a0:PR):Option Int:=
 TI ((a0.2.2.length:Int))
theorem BC{a0:PR}{a b c:Value}(_h0_0:As (.pair .st (.vec TD)) H a (a0.1.2))(_h0_1:As (.pair Xp (.vec (.int .i64))) H b (a0.2.1.2))(d:As Xl H c (a0.2.2)){r:Int}(h:Bc a0=TI r):
  Pd 7 [.agg #[No a0.1.1,a,No a0.2.1.1,b,c]] w (λv w'=>v=No r):=by
 refine Ai 6 [(0,.agg #[No a0.1.1,a,No a0.2.1.1,b,c])] func7 Z λhL=>A5<|B6 (t:=37) Z Z hL λg i f e _=>Bu
def Iy(a:List Bool):Option ((List Bool)):=
 TI a
def Ei(a1:SB):(List Bool)×Int->Option (((List Bool)×Int)⊕((List Bool))):=λ⟨b,a⟩=>
 if a<(a1.length:Int)then Ay (0<=a/\a<(a1.length:Int)) (Ay (0<=a1.getD a.toNat Qq7/\a1.getD a.toNat Qq7<(b.length:Int)) (Ay (AL (a+1)) (TI (Sum.inl ((b.set ((a1.getD a.toNat Qq7).toNat) true),(a+1))))))else Sh Sum.inr (Iy b)
def Iz(a1:SB)(s:(List Bool)×Int):Option ((List Bool)):=Go.L.run (Ei a1) s
def FT(a0:PR)(a1:SB):Option ((List Bool)):=
 Xd (Bc ((a0.1.1,a0.1.2),(a0.2.1.1,a0.2.1.2),a0.2.2)) (λa=>Ay (0<=a/\((1:Nat):Int) * a<=281474976710656/\a<=9223372036854775807) ((Iz a1) ((Xk a.toNat (false:Bool)),0)))
theorem AgA{a0:PR}{a1:SB}{e f g k:Value}(ac:As (.pair .st (.vec TD)) H e (a0.1.2))(ad:As (.pair Xp (.vec (.int .i64))) H f (a0.2.1.2))(ae:As Xl H g (a0.2.2))(af:As (.int .i64) H k a1){r:(List Bool)}(h:FT a0 a1=TI r):
  Pd 65 [.agg #[No a0.1.1,e,No a0.2.1.1,f,g],k] w (λv w'=>∃u0,v=u0/\B2 4 .bool H w w' u0 r):=by
 refine Ai 22 [(0,.agg #[No a0.1.1,e,No a0.2.1.1,f,g]),(1,k)] func65 Z λhL=>A5<|B6 (t:=37) Z Z hL λw1 b1 ab ax _=>Af ?_;refine Ah h λx2 ao h=>Al ab (BC (a0:=((a0.1.1,a0.1.2),(a0.2.1.1,a0.2.1.2),a0.2.2)) _ _ (Ae ab) (ac.mono  Ad) (ad.mono  Ad) (ae.mono  Ad) ao) λw3 a6 ap az=>Ag h λaq h=>AaB (r:=.bool) (z:=(false:Bool)) Xe (λ_=>Z) hH ap aq λy w4 ar au a2 av=>BJ 1 Z<|AA ((List Bool)×LR) (λ⟨m,d⟩=>[(5,y)]) (λ⟨m,d⟩ wr=>Cd w [.row y 4 1 (m).length d,.box b1 [No a0.1.1,e,No a0.2.1.1,f,g] 37] wr λOz=>Ao .bool (gz H w wr Oz) m d/\Iy m=TI r) ?_ ?_
 ·refine Af ?_;refine A4 ?_;obtain⟨q,h⟩:=Ax h;refine AF ((List Bool)×Int×LR×Nat) (λ⟨c,a,b,n⟩=>[(5,y),(11,k),(12,No (a1.length:Int)),(13,No a)]) (λ⟨c,a,b,n⟩ wr=>Cd w [.row y 4 1 (c).length b,.box b1 [No a0.1.1,e,No a0.2.1.1,f,g] 37] wr λOz=>Ao .bool (gz H w wr Oz) c b/\D6 (Ei a1) n (c,a)=TI r) (λ⟨c,a,b,n⟩=>n) ((Xk x2.toNat (false:Bool)),0,ar,q) Z ⟨au,av,h⟩ ?_;rintro⟨c,a,b,nn44⟩ a3 ⟨l,p,h⟩;obtain⟨q,a7,rfl,h,s⟩:=Aw h;refine AR ?_;refine Ar h ?_ ?_<;>intro ag h
  ·refine AR ?_;refine Ag h λu h=>A1 af a.toNat (BP u) (An u) ?_;rintro a8 _ rfl ah;refine sH ah (hH.trans l.arg)<|Af ?_;refine Ag h λo h=>CZ 0 Z Xe zr4.e l Z ((a1.getD a.toNat Qq7).toNat) (BP o) (An o) λa9 ai=>JR 0 ((a1.getD a.toNat Qq7).toNat) true Z Z hH l Z p ai (An o) Z λba aj ak aw al=>Ag h λa4 h=>Af ?_;have h:=AX.again h s;refine Ak (_,_,_,_) Z ⟨ak,al,h⟩
  have h:=AX.out h s;refine Af ?_;refine Am (_,_) ⟨l,p,h⟩
 rintro⟨m,d⟩ a5 ⟨x,aa,h⟩;refine Af ?_
 cases h
 refine AD Z ⟨x.ext,_,Z,(x.Ev hH (i:=0) Z aa)⟩
def M7(a:SB):Option (SB):=
 TI a
def ID(a0:Wn):SB×Int->Option (KP⊕(SB)):=λ⟨b,a⟩=>
 if a<(a0.length:Int)then Ay (0<=a/\a<(a0.length:Int)) (Ay (Go.E.Dx 8 (b.length+([(a0.getD a.toNat Qq7).1]).length)) (Ay (AL (a+1)) (TI (Sum.inl ((b++[(a0.getD a.toNat Qq7).1]),(a+1))))))else Sh Sum.inr (M7 b)
def Q0(a0:Wn)(s:KP):Option (SB):=Go.L.run (ID a0) s
def Ir(a0:Wn):Option (SB):=
 (Q0 a0) (([]:SB),0)
theorem Q1{a0:Wn}{g:Value}(ab:As TD H g a0){r:SB}(h:Ir a0=TI r):
  Pd 111 [g] w (λv w'=>∃u0,v=u0/\B2 3 (.int .i64) H w w' u0 r):=by
 refine Ai 19 [(0,g)] func111 Z λhL=>?_;obtain⟨an,ar,ao⟩:=B3 (.int .i64) H 3 hL;refine Af ?_;refine AA (SB×Value×LR) (λ⟨k,j,e⟩=>[(3,j)]) (λ⟨k,j,e⟩ wr=>Cd w [.row j 3 1 (k).length e] wr λOz=>Ao (.int .i64) (gz H w wr Oz) k e/\M7 k=TI r) ?_ ?_
 ·refine Af ?_;refine A4 ?_;obtain⟨q,h⟩:=Ax h;refine AF (SB×Int×Value×LR×Nat) (λ⟨c,a,d,b,n⟩=>[(3,d),(6,g),(7,No (a0.length:Int)),(8,No a)]) (λ⟨c,a,d,b,n⟩ wr=>Cd w [.row d 3 1 (c).length b] wr λOz=>Ao (.int .i64) (gz H w wr Oz) c b/\D6 (ID a0) n (c,a)=TI r) (λ⟨c,a,d,b,n⟩=>n) (([]:SB),0,TO,[],q) Z ⟨an,ao,h⟩ ?_;rintro⟨c,a,d,b,nn46⟩ au ⟨o,f,h⟩;obtain⟨q,ay,rfl,h,s⟩:=Aw h;refine AR ?_;refine Ar h ?_ ?_<;>intro ac h
  ·refine AR ?_;refine Ag h λt h=>A1 ab a.toNat (BP t) (An t) ?_;rintro az _ ⟨_,_,rfl,rfl,rfl⟩ ad;refine AJ (AU ad (hH.trans o.arg))<|Aq F1.e Z o λa1 a2 ae x _=>Ac 0 Z ae Z λa3 af y=>Af ?_;refine Bi [(a0.getD a.toNat Qq7).1] (r:=(.int .i64)) (λ_=>Fy _ _) af (.c1 Z .nil) λa4 a5 av ag z ah=>Ag h λai h=>?_;have f:=f.mono (Aa (x.trans (y.trans z)));refine Bf (r:=(.int .i64)) 1 c [(a0.getD a.toNat Qq7).1] Z VV ag Z f ah ai λap a6 aj ak aq p=>Ag h λaw h=>Af ?_;have al:=ak.dT 0 Z;have h:=AX.again h s;have p:=p.mono (Aa (fz_dT 0 Z));refine Ak (_,_,_,_,_) Z ⟨al,p,h⟩
  have h:=AX.out h s;refine Af ?_;refine Am (_,_,_) ⟨o,f,h⟩
 rintro⟨k,j,e⟩ ax ⟨u,aa,h⟩;refine Af ?_
 cases h
 refine AD Z ⟨u.ext,_,Z,(u.Ev hH (i:=0) Z aa)⟩
def Bj(a:SB):Option (SB):=
 TI a
def HN(a:Wn):Option (SB):=
 Xd (Ir a) (λb=>Bj b)
def Fc(a0:PR)(a1:Qv):SB×Int->Option (KP⊕(SB)):=λ⟨b,a⟩=>
 if a<(a0.2.2.length:Int)then Ay (0<=a/\a<(a0.2.2.length:Int)) (Xd (Dc ((a0.2.2.getD a.toNat Qq7).1,(a0.2.2.getD a.toNat Qq7).2.1,(a0.2.2.getD a.toNat Qq7).2.2) a1.f.2.2.2.1) (λc=>if 0<c.1 then Ay (Go.E.Dx 8 (b.length+([a]).length)) (Ay (AL (a+1)) (TI (Sum.inl ((b++[a]),(a+1)))))else Ay (AL (a+1)) (TI (Sum.inl (b,(a+1))))))else Sh Sum.inr (Bj b)
def HO(a0:PR)(a1:Qv)(s:KP):Option (SB):=Go.L.run (Fc a0 a1) s
def Ep(a0:PR)(a1:Qv):Option (SB):=
 if a1.f.1=1 then Ay (0<=(0:Int)/\(0:Int)<(a1.f.2.1.length:Int)) (Xd (He (a0.1.1,a0.1.2) (a1.f.2.1.getD ((0:Int).toNat) Qq7)) (λa=>HN a.1))else(if a1.f.1=2 then Xd (E3 (a0.1.1,a0.1.2) a1.f.2.1) (λb=>Xd (Ir b.1) (λc=>Bj c))else(if a1.f.1=3 then Ay (0<=(0:Int)/\(0:Int)<(a1.f.2.1.length:Int)) (Ay (0<=(1:Int)/\(1:Int)<(a1.f.2.1.length:Int)) (Xd (F8 (a0.1.1,a0.1.2) (a1.f.2.1.getD ((0:Int).toNat) Qq7) (a1.f.2.1.getD ((1:Int).toNat) Qq7) a1.f.2.2.2.2.1) (λd=>Bj d.1)))else(if a1.f.1=4 then(HO a0 a1) (([]:SB),0)else(if a1.f.1=5 then Xd (Gz (a0.2.1.1,a0.2.1.2) a1.f.2.2.1) (λe=>Bj e.1)else(if a1.f.1=6 then Xd (Ft (a0.2.1.1,a0.2.1.2) a1.f.2.2.1 a1.f.2.2.2.2.1 a1.f.2.2.2.2.2.1) (λg=>Bj g.1)else(if a1.f.1=7 then Xd (G0 (a0.2.1.1,a0.2.1.2) a1.f.2.2.1 a1.f.2.2.2.1) (λh=>Bj h.1)else Bj ([]:SB)))))))
theorem Frm(hU:E1 H){a0:PR}{a1:Qv}{x y p z aa ab:Value}(ak:As (.pair .st (.vec TD)) H x (a0.1.2))(bn:As (.pair Xp (.vec (.int .i64))) H y (a0.2.1.2))(e3:As Xl H p (a0.2.2))(al:As .st H z (a1.f.2.1))(ck:As .byte H aa (a1.f.2.2.2.1))(_h1_2:As .AN H ab (a1.f.2.2.2.2.2.2)){r:SB}(h:Ep a0 a1=TI r):
  Pd 66 [.agg #[No a0.1.1,x,No a0.2.1.1,y,p],.agg #[No a1.f.1,z,Pg a1.f.2.2.1,aa,No a1.f.2.2.2.2.1,No a1.f.2.2.2.2.2.1,ab]] w (λv w'=>∃u0,v=u0/\B2 3 (.int .i64) H w w' u0 r):=by
 refine Ai 121 [(0,.agg #[No a0.1.1,x,No a0.2.1.1,y,p]),(1,.agg #[No a1.f.1,z,Pg a1.f.2.2.1,aa,No a1.f.2.2.2.2.1,No a1.f.2.2.2.2.2.1,ab])] func66 Z λhL=>A5<|B6 (t:=37) Z Z hL λw1 b1 fg fs _=>B6 (t:=27) Z Z fg ?_;intro w2 b2 fh ft _;obtain⟨b,fu,af⟩:=B3 (.int .i64) H 3 fh;refine Af ?_;refine AA (SB×Value×LR) (λ⟨aj,ag,s⟩=>[(5,ag)]) (λ⟨aj,ag,s⟩ wr=>Cd w [.row ag 3 1 (aj).length s,.box b2 [No a1.f.1,z,Pg a1.f.2.2.1,aa,No a1.f.2.2.2.2.1,No a1.f.2.2.2.2.2.1,ab] 27,.box b1 [No a0.1.1,x,No a0.2.1.1,y,p] 37] wr λOz=>Ao (.int .i64) (gz H w wr Oz) aj s/\Bj aj=TI r) ?_ ?_
 ·refine AR ?_;refine Ar h ?_ ?_<;>intro db h
  ·refine AA (Wn×Value) (λ⟨u,o⟩=>[(6,o)]) (λ⟨u,o⟩ wr=>Cd w [.row TO 3 1 (([]:SB)).length ([]),.box b2 [No a1.f.1,z,Pg a1.f.2.2.1,aa,No a1.f.2.2.2.2.1,No a1.f.2.2.2.2.2.1,ab] 27,.box b1 [No a0.1.1,x,No a0.2.1.1,y,p] 37] wr λOz=>As TD (gz H w wr Oz) o u/\Ao (.int .i64) (gz H w wr Oz) (([]:SB)) ([])/\HN u=TI r) ?_ ?_
   ·refine P8 (Zt 0 6 (.h2 6 (Zt 7 3 (.h 10 (.q 11 (.tail 12)))) 10 (.h 6 (Zt 7 3 (.q 11 (.tail 12)))))) mixed SF (λfv bq=>?_);have j:=b.call bq;have bc:=A3 b bq;refine Bh Z (A7 Z Sf Z O7.e) Z<|Bh Z (GR 2 2 Z O7.e j Z Z) Z<|Bh Z (A7 Z Vv Z Up.e) Z<|Bh Z (AG 1 Z j Z) Z<|Ag h λbr h=>Cj Z Z Z Jk al ((0:Int).toNat) (BP br) (An br) Z ?_;rintro fw _ rfl dc;refine Bh Z (B5 dc (hH.trans j.arg)) Z<|VS ?_ ?_
    ·refine Ah h λbo am h=>BK Z Z Z (λe5 ah=>NK _ _ (Ae (j.call ah)) (hU.mono  Ad) (ak.mono  Ad) am) ?_;rintro e5 _ fx ah an ⟨cl,rfl,cb⟩;have ao:=j.call ah;have cm:=A3 j ah;have dd:=ao.call an;have cn:=A3 ao an;have ac:=cb.BB hH ao an;refine Br 3 Z<|QH Z Av.e Z Z dd λfy fz bs bd=>Br 1 Z<|AT (λf0 bt=>?_);have de:=bs.call bt;have be:=A3 bs bt;refine Ac 0 Z de Z λf1 df bf=>HX ?_;have dg:=df.dT 0 Z;have af:=af.mono (Aa (bc.trans (cm.trans (cn.trans (bd.trans (be.trans (bf.trans (fz_dT 0 Z))))))));have ac:=ac.mono (Aa (bd.trans (be.trans (bf.trans (fz_dT 0 Z)))));refine Am (_,_) ⟨dg,ac,af,h⟩
    refine Ah h λbo am h=>QH Z Av.e Z Z j λf2 f3 ap co=>BK Z Z Z (λe6 ai=>NK _ _ (Ae (ap.call ai)) (hU.mono  Ad) (ak.mono  Ad) am) ?_;rintro e6 _ f4 ai aq ⟨cp,rfl,cc⟩;have ar:=ap.call ai;have cq:=A3 ap ai;have bu:=ar.call aq;have cr:=A3 ar aq;have ad:=cc.BB hH ar aq;refine Br 4 Z<|AT (λf5 bv=>?_);have dh:=bu.call bv;have bg:=A3 bu bv;refine Ac 0 Z dh Z λf6 di bh=>HX ?_;have dj:=di.dT 0 Z;have af:=af.mono (Aa (bc.trans (co.trans (cq.trans (cr.trans (bg.trans (bh.trans (fz_dT 0 Z))))))));have ad:=ad.mono (Aa (bg.trans (bh.trans (fz_dT 0 Z))));refine Am (_,_) ⟨dj,ad,af,h⟩
   rintro⟨u,o⟩ fl ⟨au,bp,he142_r3,h⟩;refine Af ?_;refine Ah h λe7 dk h=>A9 au (Q1 _ _ (Ae au) bp dk) ?_;rintro cs f7 ⟨_,rfl,cd⟩ dl bw ct;obtain⟨dm,bw,ct,av⟩:=cd.take hH au dl;refine Af ?_;have dn:=bw.dT 1 Z;have av:=av.mono (Aa (fz_dT 1 Z));refine Am (_,_,_) ⟨dn,av,h⟩
  refine Bx 2 Z<|Ar h ?_ ?_<;>intro dp h
  ·refine Af ?_;refine AJ (GR 2 2 Z O7.e b Z Z)<|Af ?_;refine Ah h λf8 dq h=>A9 b (Qzk (a0:=(a0.1.1,a0.1.2)) _ _ (Ae b) (hU.mono  Ad) (ak.mono  Ad) (al.mono  Ad) dq) ?_;rintro _ f9 ⟨fi,rfl,ce⟩ dr ds fj;have ae:=ce.BB hH b dr;refine AK 3 Z<|Aq Av.e Z ds λga gb dt cu _=>AK 1 Z<|Ac 0 Z dt Z λgc aw cv=>Af ?_;refine Ah h λe8 du h=>?_;have ae:=ae.mono (Aa (cu.trans cv));refine A9 aw (Q1 _ _ (Ae aw) ae du) ?_;rintro cw gd ⟨_,rfl,cf⟩ dv bx cx;obtain⟨dw,bx,cx,ax⟩:=cf.take hH aw dv;refine Af ?_;have dx:=bx.dT 1 Z;have dy:=dx.dT 1 Z;have ax:=ax.mono (Aa ((fz_dT 1 Z).trans (fz_dT 1 Z)));refine Am (_,_,_) ⟨dy,ax,h⟩
  refine Bx 2 Z<|Ar h ?_ ?_<;>intro dz h
  ·refine P8 (Zt 0 12 (.h 12 (Zt 13 4 (.tail 17)))) mixed SF (λge d0=>?_);have e:=b.call d0;refine Bh Z (A7 Z Sf Z O7.e) Z<|Bh Z (GR 2 2 Z O7.e e Z Z) Z<|Bh Z (A7 Z Vv Z Up.e) Z<|Bh Z (AG 1 Z e Z) Z<|Ag h λbz h=>Cj Z Z Z Jk al ((0:Int).toNat) (BP bz) (An bz) Z ?_;rintro gf _ rfl d1;refine Bh Z (B5 d1 (hH.trans e.arg)) Z<|Bh Z (A7 Z Vv Z Up.e) Z<|Bh Z (AG 1 Z e Z) Z<|Ag h λb0 h=>Cj Z Z Z Jk al ((1:Int).toNat) (BP b0) (An b0) Z ?_;rintro gg _ rfl d2;refine Bh Z (B5 d2 (hH.trans e.arg)) Z<|Bh Z (A7 Z Vv Z DW.e) Z<|Bh Z (AG 1 Z e Z) Z<|Ah h λe9 d3 h=>BK Z Z Z (λfa ay=>Qxe _ _ (Ae (e.call ay)) (hU.mono  Ad) (ak.mono  Ad) d3) ?_;rintro fa _ gh ay az ⟨cy,rfl,cg⟩
   have a2:=e.call ay;have a3:=a2.call az;have cz:=A3 a2 az;obtain⟨d4,a3,cz,a4⟩:=cg.take hH a2 az;refine Br 4 Z<|AT (λgi b3=>?_);have d5:=a3.call b3;have c0:=A3 a3 b3;refine Af ?_;have d6:=d5.dT 1 Z;have a4:=a4.mono (Aa (c0.trans (fz_dT 1 Z)));refine Am (_,_,_) ⟨d6,a4,h⟩
  refine Bx 2 Z<|Ar h ?_ ?_<;>intro d7 h
  ·refine Af ?_;refine A4 ?_;obtain⟨a5,h⟩:=Ax h;refine AF (SB×Int×Value×LR×Nat) (λ⟨g,a,k,c,n⟩=>[(3,(SX b2)),(5,k),(63,p),(64,No (a0.2.2.length:Int)),(65,No a)]) (λ⟨g,a,k,c,n⟩ wr=>Cd w [.row k 3 1 (g).length c,.box b2 [No a1.f.1,z,Pg a1.f.2.2.1,aa,No a1.f.2.2.2.2.1,No a1.f.2.2.2.2.2.1,ab] 27,.box b1 [No a0.1.1,x,No a0.2.1.1,y,p] 37] wr λOz=>Ao (.int .i64) (gz H w wr Oz) g c/\D6 (Fc a0 a1) n (g,a)=TI r) (λ⟨g,a,k,c,n⟩=>n) (([]:SB),0,TO,[],a5) Z ⟨b,af,h⟩ ?_;rintro⟨g,a,k,c,nn221⟩ fm ⟨a6,d,h⟩;obtain⟨a5,gj,rfl,h,a7⟩:=Aw h;refine AR ?_;refine Ar h ?_ ?_<;>intro d8 h
   ·refine AR ?_;refine Ag h λb4 h=>A1 e3 a.toNat (BP b4) (An b4) ?_;rintro gk _ ⟨_,_,rfl,⟨e225v0,rfl,e225h0⟩,⟨_,_,rfl,⟨e225v1,rfl,e225h1⟩,⟨e225v2,rfl,e225h2⟩⟩⟩ d9;refine AJ (AU d9 (hH.trans a6.arg))<|Aq HY.e Z a6 λgl gm ea bi _=>AK 1 Z<|Ac 0 Z ea Z (a:=(AV e225h0.one (AV e225h1.one (AV e225h2.one JO)))) λgn b5 bj=>Af ?_;refine Ah h λgo eb h=>Al b5 (OkF (a0:=((a0.2.2.getD a.toNat Qq7).1,(a0.2.2.getD a.toNat Qq7).2.1,(a0.2.2.getD a.toNat Qq7).2.2)) _ _ (Ae b5) (e225h0.mono  Ad) (e225h1.mono  Ad) (e225h2.mono  Ad) (ck.mono  Ad) eb) λgp fn ec bk=>AK 3 Z<|Aq Av.e Z ec λgq gr ed bl _=>AK 1 Z<|Ac 0 Z ed Z λgs b6 bm=>Af ?_;refine Ar h ?_ ?_<;>intro ee h
    ·refine Af ?_;refine Bi [a] (r:=(.int .i64)) (λ_=>Fy _ _) b6 (.c1 Z .nil) λgt gu fo ef c2 eg=>Ag h λeh h=>?_;have d:=d.mono (Aa (bi.trans (bj.trans (bk.trans (bl.trans (bm.trans c2))))));refine Bf (r:=(.int .i64)) 2 g [a] Z VV ef Z d eg eh λfb gv ei ej fk a8=>Ag h λfp h=>Af ?_;have ek:=ej.dT 0 Z;have el:=ek.dT 0 Z;have h:=AX.again h a7;have a8:=a8.mono (Aa ((fz_dT 0 Z).trans (fz_dT 0 Z)));refine Ak (_,_,_,_,_) Z ⟨el,a8,h⟩
    refine Ag h λfq h=>Af ?_;have em:=b6.dT 0 Z;have en:=em.dT 0 Z;have h:=AX.again h a7;have d:=d.mono (Aa (bi.trans (bj.trans (bk.trans (bl.trans (bm.trans ((fz_dT 0 Z).trans (fz_dT 0 Z))))))));refine Ak (_,_,_,_,_) Z ⟨en,d,h⟩
   have h:=AX.out h a7;refine Af ?_;refine Am (_,_,_) ⟨a6,d,h⟩
  refine Bx 2 Z<|Ar h ?_ ?_<;>intro eo h
  ·refine Af ?_;refine AJ (GR 2 2 Z QL.e b Z Z)<|Af ?_;refine Ah h λfc ep h=>A9 b (Qxb (a0:=(a0.2.1.1,a0.2.1.2)) _ _ (Ae b) (bn.mono  Ad) ep) ?_;rintro _ gw ⟨c3,rfl,ch⟩ eq b7 c4;obtain⟨er,b7,c4,a9⟩:=ch.take hH b eq;refine Af ?_;have es:=b7.dT 1 Z;have a9:=a9.mono (Aa (fz_dT 1 Z));refine Am (_,_,_) ⟨es,a9,h⟩
  refine Bx 2 Z<|Ar h ?_ ?_<;>intro et h
  ·refine Af ?_;refine AJ (GR 2 2 Z QL.e b Z Z)<|Af ?_;refine Ah h λfd eu h=>A9 b (Qxk (a0:=(a0.2.1.1,a0.2.1.2)) _ _ (Ae b) (bn.mono  Ad) eu) ?_;rintro _ gx ⟨c5,rfl,ci⟩ ev b8 c6;obtain⟨ew,b8,c6,ba⟩:=ci.take hH b ev;refine Af ?_;have ex:=b8.dT 1 Z;have ba:=ba.mono (Aa (fz_dT 1 Z));refine Am (_,_,_) ⟨ex,ba,h⟩
  refine Bx 2 Z<|Ar h ?_ ?_<;>intro ey h
  ·refine Af ?_;refine AJ (GR 2 2 Z QL.e b Z Z)<|Af ?_;refine Ah h λfe ez h=>A9 b (Qjb (a0:=(a0.2.1.1,a0.2.1.2)) _ _ (Ae b) (bn.mono  Ad) (ck.mono  Ad) ez) ?_;rintro _ gy ⟨c7,rfl,cj⟩ e0 b9 c8;obtain⟨e1,b9,c8,bb⟩:=cj.take hH b e0;refine Af ?_;have e2:=b9.dT 1 Z;have bb:=bb.mono (Aa (fz_dT 1 Z));refine Am (_,_,_) ⟨e2,bb,h⟩
  refine Af ?_;refine Am (_,_,_) ⟨b,af,h⟩
 rintro⟨aj,ag,s⟩ fr ⟨ca,c9,h⟩;refine Af ?_
 cases h
 refine AD Z ⟨ca.ext,_,Z,(ca.Ev hH (i:=0) Z c9)⟩
end
def D0(a:List Bool):Option ((List Bool)):=
 TI a
def D1(a:Int)(b:List Bool):Option (((List Bool)×Int)⊕((List Bool))):=
 Ay (AL (a+1)) (TI (Sum.inl (b,(a+1))))
def Cz(a1:Qv)(d:Int)(c:(List Bool)):(List Bool)×Int->Option (((List Bool)×Int)⊕(((List Bool)×Int)⊕((List Bool)))):=λ⟨b,a⟩=>
 if a<(c.length:Int)then Ay (0<=a/\a<(c.length:Int)) (if a1.f.1=8 then Ay (0<=a/\a<(b.length:Int)) (Ay (0<=a/\a<(b.length:Int)) (Ay (AL (a+1)) (TI (Sum.inl ((b.set a.toNat (bif b.getD a.toNat Qq7 then c.getD a.toNat Qq7 else false)),(a+1))))))else Ay (0<=a/\a<(b.length:Int)) (Ay (0<=a/\a<(b.length:Int)) (Ay (AL (a+1)) (TI (Sum.inl ((b.set a.toNat (bif b.getD a.toNat Qq7 then true else c.getD a.toNat Qq7)),(a+1)))))))else Sh Sum.inr ((D1 d) b)
def Fj(a1:Qv)(a:Int)(b:(List Bool))(s:(List Bool)×Int):Option (((List Bool)×Int)⊕((List Bool))):=Go.L.run (Cz a1 a b) s
def BA(a0:PR)(a1:Qv)(self:PR->Qv->Option ((List Bool))):(List Bool)×Int->Option (((List Bool)×Int)⊕((List Bool))):=λ⟨b,a⟩=>
 if a<((a1.f.2.2.2.2.2.2.drop (1:Int).toNat).length:Int)then Ay (0<=a/\a<((a1.f.2.2.2.2.2.2.drop (1:Int).toNat).length:Int)) (Xd (self ((a0.1.1,a0.1.2),(a0.2.1.1,a0.2.1.2),a0.2.2) ((a1.f.2.2.2.2.2.2.drop (1:Int).toNat).getD a.toNat Qq7)) (λc=>(Fj a1 a c) (b,0)))else Sh Sum.inr (D0 b)
def D2(a0:PR)(a1:Qv)(self:PR->Qv->Option ((List Bool)))(s:(List Bool)×Int):Option ((List Bool)):=Go.L.run (BA a0 a1 self) s
def C8(a0:PR)(a1:Qv)(self:PR->Qv->Option ((List Bool)))(a:List Bool):Option ((List Bool)):=
 Ay (0<=(1:Int)/\(1:Int)<=(a1.f.2.2.2.2.2.2.length:Int)) ((D2 a0 a1 self) (a,0))
def C0(a0:PR)(a1:Qv)(self:PR->Qv->Option ((List Bool)))(c:(List Bool)):(List Bool)×Int->Option (((List Bool)×Int)⊕((List Bool))):=λ⟨b,a⟩=>
 if a<(c.length:Int)then Ay (0<=a/\a<(b.length:Int)) (Ay (0<=a/\a<(b.length:Int)) (Ay (AL (a+1)) (TI (Sum.inl ((b.set a.toNat (!(b.getD a.toNat Qq7))),(a+1))))))else Sh Sum.inr ((C8 a0 a1 self) b)
def Fk(a0:PR)(a1:Qv)(self:PR->Qv->Option ((List Bool)))(a:(List Bool))(s:(List Bool)×Int):Option ((List Bool)):=Go.L.run (C0 a0 a1 self a) s
def Eu(self:PR->Qv->Option ((List Bool)))(a0:PR)(a1:Qv):Option ((List Bool)):=
 Xd (Ki a1.f.1) (λc=>if c then Xd (Ep ((a0.1.1,a0.1.2),(a0.2.1.1,a0.2.1.2),a0.2.2) a1) (λd=>Xd (FT ((a0.1.1,a0.1.2),(a0.2.1.1,a0.2.1.2),a0.2.2) d) (λb=>TI b))else Ay (0<=(0:Int)/\(0:Int)<(a1.f.2.2.2.2.2.2.length:Int)) (Xd (self ((a0.1.1,a0.1.2),(a0.2.1.1,a0.2.1.2),a0.2.2) (a1.f.2.2.2.2.2.2.getD ((0:Int).toNat) Qq7)) (λa=>if a1.f.1=10 then(Fk a0 a1 self a) (a,0)else(C8 a0 a1 self) a)))
def Ej(self:PR->Qv->Option ((List Bool))):Prop:=∀(w:World) (H:PH) (hH:Le H (hp w)) (hU:E1 H) {a0:PR}{a1:Qv}{a:Value}{b:Value}{c:Value}{d:Value}{e:Value}{g:Value} (j:As (.pair .st (.vec TD)) H a (a0.1.2)) (k:As (.pair Xp (.vec (.int .i64))) H b (a0.2.1.2)) (l:As Xl H c (a0.2.2)) (m:As .st H d (a1.f.2.1)) (n:As .byte H e (a1.f.2.2.2.1)) (o:As .AN H g (a1.f.2.2.2.2.2.2)) {r:(List Bool)} (h:self a0 a1=TI r),Ok prog 30 [.agg #[No a0.1.1,a,No a0.2.1.1,b,c],.agg #[No a1.f.1,d,Pg a1.f.2.2.1,e,No a1.f.2.2.2.2.1,No a1.f.2.2.2.2.2.1,g]] w (λv w'=>Ext w w'/\∃i,v=i/\B2 4 .bool H w w' i r)
def Bg:Nat->PR->Qv->Option ((List Bool))
 | 0=>λ_ _=>none
 | n+1=>Eu (Bg n)
def G2:PR->Qv->Option ((List Bool)):=Bg 1000
def Qjz(self:PR->Qv->Option ((List Bool)))(hself:Ej self):Ej (Eu self):=by
 intro w H hH hU a0 a1 e g k ad ae af ao ap aq c8 c9 a7 r h;unfold Ej at hself;refine Ai 88 [(0,.agg #[No a0.1.1,e,No a0.2.1.1,g,k]),(1,.agg #[No a1.f.1,ad,Pg a1.f.2.2.1,ae,No a1.f.2.2.2.2.1,No a1.f.2.2.2.2.2.1,af])] func30 Z λhL=>A5<|B6 (t:=37) Z Z hL λw1 b1 dn d6 _=>B6 (t:=27) Z Z dn λw2 b2 c7 d7 _=>AR ?_;refine Ah h λx3 dp h=>Al c7 (M5 _ _ (Ae c7) dp) λw4 ep a5 d8=>Ap<|AH h ?_ ?_<;>intro dq h
 ·refine BF (Zt 0 3 (.h 3 (.h 4 (.q 5 (.tail 6))))) mixed SF (λw7 dr=>?_);have bi:=a5.call dr
  iterate 2 refine Bh Z (C6 1 Z QM.e bi Z) Z ?_
  refine Bh Z (C6 0 Z Bs.e bi Z) Z<|Ah h λx9 ds h=>BK Z Z Z (λdt a8=>Frm _ _ (Ae (bi.call a8)) (hU.mono  Ad) (ao.mono  Ad) (ap.mono  Ad) (aq.mono  Ad) (c8.mono  Ad) (c9.mono  Ad) (a7.mono  Ad) ds) ?_;rintro dt dv eq a8 a9 ⟨_,rfl,bv⟩;have ba:=bi.call a8;have ar:=ba.call a9;have dw:=A3 ba a9;have p:=bv.BB hH ba a9;refine Ah h λer da h=>BK Z Z Z (λdu al=>AgA _ _ (Ae (ar.call al)) (ao.mono  Ad) (ap.mono  Ad) (aq.mono  Ad) (p.mono (Aa (A3 ar al))) da) ?_;rintro du dx es al bb ⟨_,rfl,bw⟩;have bc:=ar.call al;have ch:=A3 ar al;have p:=p.mono (Aa ch);have bd:=bc.call bb;have bj:=A3 bc bb;obtain⟨d9,bd,bj,be⟩:=bw.take hH bc bb;have p:=p.mono (Aa bj);refine Br 1 Z<|AT (λet bx=>?_);have bz:=bd.call bx;have bk:=A3 bd bx;have p:=p.mono (Aa bk);have be:=be.mono (Aa bk);refine Af ?_
  cases h
  refine AD Z ⟨bz.ext,_,Z,(bz.Ev hH (i:=0) Z be)⟩
 refine Af ?_;refine Ag h λb0 h=>A1 a7 ((0:Int).toNat) (BP b0) (An b0) ?_;rintro eu _ e20t0 db;obtain⟨_,_,rfl,rfl,⟨_,_,rfl,⟨e20v1,rfl,e20h1⟩,⟨_,_,rfl,rfl,⟨_,_,rfl,⟨e20v3,rfl,e20h3⟩,⟨_,_,rfl,rfl,⟨_,_,rfl,rfl,⟨e20v6,rfl,e20h6⟩⟩⟩⟩⟩⟩⟩:=Go.E.Rp.C2 e20t0;refine AJ (AU db (hH.trans a5.arg))<|Ah h λbl dc h=>Acr [.agg #[No a0.1.1,e,No a0.2.1.1,g,k]] [] Z Z a5 (hself _ _ (Ae a5) (hU.mono  Ad) (ao.mono  Ad) (ap.mono  Ad) (aq.mono  Ad) (e20h1.mono  Ad) (e20h3.mono  Ad) (e20h6.mono  Ad) dc) ?_;rintro d ev ⟨_,rfl,b3⟩ dd au ci;obtain⟨b4,au,ci,b5⟩:=b3.take hH a5 dd;refine BJ 1 Z ?_
 refine AA ((List Bool)×LR) (λ⟨an,ah⟩=>[(3,(SX b2)),(5,.func (.func 30) #[.agg #[No a0.1.1,e,No a0.2.1.1,g,k]] #[]),(6,d)]) (λ⟨an,ah⟩ wr=>Cd w [.row d 4 1 (an).length ah,.box b2 [No a1.f.1,ad,Pg a1.f.2.2.1,ae,No a1.f.2.2.2.2.1,No a1.f.2.2.2.2.2.1,af] 27,.box b1 [No a0.1.1,e,No a0.2.1.1,g,k] 37] wr λOz=>Ao .bool (gz H w wr Oz) an ah/\(C8 a0 a1 self) an=TI r) ?_ ?_
 ·refine Af ?_;refine Ar h ?_ ?_<;>intro de h
  ·refine FA 1 Z<|AJ (O1 0 Z au Z)<|BJ 1 Z<|A4 ?_;obtain⟨b6,h⟩:=Ax h;refine AF ((List Bool)×Int×LR×Nat) (λ⟨ac,c,ab,n⟩=>[(3,(SX b2)),(5,.func (.func 30) #[.agg #[No a0.1.1,e,No a0.2.1.1,g,k]] #[]),(6,d),(32,No (bl.length:Int)),(33,No c)]) (λ⟨ac,c,ab,n⟩ wr=>Cd w [.row d 4 1 (ac).length ab,.box b2 [No a1.f.1,ad,Pg a1.f.2.2.1,ae,No a1.f.2.2.2.2.1,No a1.f.2.2.2.2.2.1,af] 27,.box b1 [No a0.1.1,e,No a0.2.1.1,g,k] 37] wr λOz=>Ao .bool (gz H w wr Oz) ac ab/\D6 (C0 a0 a1 self bl) n (ac,c)=TI r) (λ⟨ac,c,ab,n⟩=>n) (bl,0,b4,b6) Z ⟨au,b5,h⟩ ?_;rintro⟨ac,c,ab,nn67⟩ ea ⟨av,aw,h⟩;obtain⟨b6,ew,rfl,h,b7⟩:=Aw h;refine AR ?_;refine Ar h ?_ ?_<;>intro df h
   ·refine AR ?_;refine Ag h λb8 h=>A1 (av.Jv hH (i:=0) Z aw) c.toNat (BP b8) (An b8) ?_;rintro ex _ rfl dg;refine sH dg (Le.refl _)<|AK 1 Z<|Ag h λbf h=>CZ 0 Z Xe zr4.e av Z c.toNat (BP bf) (An bf) λey dh=>JR 0 c.toNat (!(ac.getD c.toNat Qq7)) Z Z hH av Z aw dh (An bf) Z λez di dj dy dk=>Ag h λeb h=>Af ?_;have h:=AX.again h b7;refine Ak (_,_,_,_) Z ⟨dj,dk,h⟩
   have h:=AX.out h b7;refine Af ?_;refine Am (_,_) ⟨av,aw,h⟩
  refine Ca<|Am (_,_) ⟨au,b5,h⟩
 rintro⟨an,ah⟩ ec ⟨dl,cj,h⟩;refine AA ((List Bool)×LR) (λ⟨am,ai⟩=>[(6,d)]) (λ⟨am,ai⟩ wr=>Cd w [.row d 4 1 (am).length ai,.box b2 [No a1.f.1,ad,Pg a1.f.2.2.1,ae,No a1.f.2.2.2.2.1,No a1.f.2.2.2.2.2.1,af] 27,.box b1 [No a0.1.1,e,No a0.2.1.1,g,k] 37] wr λOz=>Ao .bool (gz H w wr Oz) am ai/\D0 am=TI r) ?_ ?_
 ·refine Af ?_;refine Ag h λck h=>AbW a7 ck λbg cl=>Af ?_;refine A4 ?_;obtain⟨bh,h⟩:=Ax h;refine AF ((List Bool)×Int×LR×Nat) (λ⟨y,b,s,n⟩=>[(3,(SX b2)),(5,.func (.func 30) #[.agg #[No a0.1.1,e,No a0.2.1.1,g,k]] #[]),(6,d),(47,bg),(48,No ((a1.f.2.2.2.2.2.2.drop (1:Int).toNat).length:Int)),(49,No b)]) (λ⟨y,b,s,n⟩ wr=>Cd w [.row d 4 1 (y).length s,.box b2 [No a1.f.1,ad,Pg a1.f.2.2.1,ae,No a1.f.2.2.2.2.1,No a1.f.2.2.2.2.2.1,af] 27,.box b1 [No a0.1.1,e,No a0.2.1.1,g,k] 37] wr λOz=>Ao .bool (gz H w wr Oz) y s/\D6 (BA a0 a1 self) n (y,b)=TI r) (λ⟨y,b,s,n⟩=>n) (an,0,ah,bh) Z ⟨dl,cj,h⟩ ?_;rintro⟨y,b,s,nn263⟩ dz ⟨ax,o,h⟩;obtain⟨bh,b9,rfl,h,bm⟩:=Aw h;refine AR ?_;refine Ar h ?_ ?_<;>intro cm h
  ·refine Af ?_;refine AA ((List Bool)×LR) (λ⟨aj,aa⟩=>[(3,(SX b2)),(5,.func (.func 30) #[.agg #[No a0.1.1,e,No a0.2.1.1,g,k]] #[]),(6,d),(47,bg),(48,No ((a1.f.2.2.2.2.2.2.drop (1:Int).toNat).length:Int)),(49,No b)]) (λ⟨aj,aa⟩ wr=>Cd w [.row d 4 1 (aj).length aa,.box b2 [No a1.f.1,ad,Pg a1.f.2.2.1,ae,No a1.f.2.2.2.2.1,No a1.f.2.2.2.2.2.1,af] 27,.box b1 [No a0.1.1,e,No a0.2.1.1,g,k] 37] wr λOz=>Ao .bool (gz H w wr Oz) aj aa/\(D1 b) aj=TI b9) ?_ ?_
   ·refine AR ?_;refine Ag h λbn h=>A1 cl b.toNat (BP bn) (An bn) ?_;rintro ed _ e321t0 cn;obtain⟨_,_,rfl,rfl,⟨_,_,rfl,⟨e321v1,rfl,e321h1⟩,⟨_,_,rfl,rfl,⟨_,_,rfl,⟨e321v3,rfl,e321h3⟩,⟨_,_,rfl,rfl,⟨_,_,rfl,rfl,⟨e321v6,rfl,e321h6⟩⟩⟩⟩⟩⟩⟩:=Go.E.Rp.C2 e321t0;refine AJ (AU cn (hH.trans ax.arg))<|Aq Bs.e Z ax ?_;intro ee dm co ca _;have o:=o.mono (Aa ca);refine Ac 0 Z co Z (a:=(AV Z (AV e321h1.one (AV Z (AV e321h3.one (AV Z (AV Z (AV e321h6.one JO)))))))) ?_;intro ef ay cb;have o:=o.mono (Aa cb);refine Af ?_;refine Ah h λag cp h=>Acr [.agg #[No a0.1.1,e,No a0.2.1.1,g,k]] [] Z Z ay (hself _ _ (Ae ay) (hU.mono  Ad) (ao.mono  Ad) (ap.mono  Ad) (aq.mono  Ad) (e321h1.mono  Ad) (e321h3.mono  Ad) (e321h6.mono  Ad) cp) ?_;rintro a6 eg ⟨_,rfl,bt⟩ cq cr cc;have bu:=bt.BB hH ay cq;have o:=o.mono (Aa cc);refine Af ?_;refine A4 ?_;obtain⟨az,h⟩:=Ax h
    refine AF ((List Bool)×Int×LR×Nat) (λ⟨l,a,x,n⟩=>[(3,(SX b2)),(5,.func (.func 30) #[.agg #[No a0.1.1,e,No a0.2.1.1,g,k]] #[]),(6,d),(47,bg),(48,No ((a1.f.2.2.2.2.2.2.drop (1:Int).toNat).length:Int)),(49,No b),(55,a6),(56,No (ag.length:Int)),(57,No a)]) (λ⟨l,a,x,n⟩ wr=>Cd w [.box dm [No (((a1.f.2.2.2.2.2.2.drop (1:Int).toNat).getD b.toNat Qq7).f.1),e321v1,.string ⟨(((a1.f.2.2.2.2.2.2.drop (1:Int).toNat).getD b.toNat Qq7).f.2.2.1).toArray⟩,e321v3,No (((a1.f.2.2.2.2.2.2.drop (1:Int).toNat).getD b.toNat Qq7).f.2.2.2.2.1),No (((a1.f.2.2.2.2.2.2.drop (1:Int).toNat).getD b.toNat Qq7).f.2.2.2.2.2.1),e321v6] 27,.row d 4 1 (l).length x,.box b2 [No a1.f.1,ad,Pg a1.f.2.2.1,ae,No a1.f.2.2.2.2.1,No a1.f.2.2.2.2.2.1,af] 27,.box b1 [No a0.1.1,e,No a0.2.1.1,g,k] 37] wr λOz=>As .bool (gz H w wr Oz) a6 ag/\Ao .bool (gz H w wr Oz) l x/\D6 (Cz a1 b ag) n (l,a)=TI b9) (λ⟨l,a,x,n⟩=>n) (y,0,s,az) Z ⟨cr,bu,o,h⟩ ?_;rintro⟨l,a,x,nn350⟩ d0 ⟨v,m,u,h⟩
    obtain⟨az,eh,rfl,h,a2⟩:=Aw h;refine AR ?_;refine Ar h ?_ ?_<;>intro cs h
    ·refine AR ?_;refine Ag h λbo h=>A1 m a.toNat (BP bo) (An bo) ?_;rintro ei _ rfl ct;refine sH ct (Ae v)<|Af ?_;refine Ar h ?_ ?_<;>intro cu h
     ·refine Af ?_;refine Ag h λbp h=>A1 (v.Jv hH (i:=1) Z u) a.toNat (BP bp) (An bp) ?_;rintro ej _ rfl cv;refine sH cv (Le.refl _)<|AK 1 Z<|Xx 1 6 Z Z Z Z Z Z Z<|Ag h λa3 h=>CZ 1 Z Xe zr4.e v Z a.toNat (BP a3) (An a3) λek cw=>JR 1 a.toNat (bif l.getD a.toNat Qq7 then ag.getD a.toNat Qq7 else false) Z Z hH v Z u cw (An a3) Z ?_;intro el cx cy cd cz;have m:=m.mono (Aa cd);refine Ag h λd1 h=>Af ?_;have h:=AX.again h a2;refine Ak (_,_,_,_) Z ⟨cy,m,cz,h⟩
     refine Af ?_;refine Ag h λbq h=>A1 (v.Jv hH (i:=1) Z u) a.toNat (BP bq) (An bq) ?_;rintro em _ rfl c0;refine sH c0 (Le.refl _)<|AK 1 Z<|Aet 1 6 Z Z Z Z Z Z Z<|Ag h λa4 h=>CZ 1 Z Xe zr4.e v Z a.toNat (BP a4) (An a4) λen c1=>JR 1 a.toNat (bif l.getD a.toNat Qq7 then true else ag.getD a.toNat Qq7) Z Z hH v Z u c1 (An a4) Z ?_;intro eo c2 c3 ce c4;have m:=m.mono (Aa ce);refine Ag h λd2 h=>Af ?_;have h:=AX.again h a2;refine Ak (_,_,_,_) Z ⟨c3,m,c4,h⟩
    have h:=AX.out h a2;refine Af ?_;have c5:=v.dT 0 Z;have u:=u.mono (Aa (fz_dT 0 Z));refine Am (_,_) ⟨c5,u,h⟩
   rintro⟨aj,aa⟩ d3 ⟨c6,cf,h⟩;refine Ag h λd4 h=>Af ?_;have h:=AX.again h bm;refine Ak (_,_,_,_) Z ⟨c6,cf,h⟩
  have h:=AX.out h bm;refine Af ?_;refine Am (_,_) ⟨ax,o,h⟩
 rintro⟨am,ai⟩ d5 ⟨br,cg,h⟩;refine Af ?_
 cases h
 refine AD Z ⟨br.ext,_,Z,(br.Ev hH (i:=0) Z cg)⟩
theorem AbD(n:Nat):Ej (Bg n):=by
 induction n with
 | zero=>unfold Ej;intros;rename_i h;cases h
 | succ n ih=>exact Qjz (Bg n) ih
section
variable(w:World)(H:PH)(hH:Le H (hp w)) include hH
theorem QkA(hU:E1 H){a0:PR}{a1:Qv}{a b c d e g:Value}(i:As (.pair .st (.vec TD)) H a (a0.1.2))(j:As (.pair Xp (.vec (.int .i64))) H b (a0.2.1.2))(k:As Xl H c (a0.2.2))(l:As .st H d (a1.f.2.1))(m:As .byte H e (a1.f.2.2.2.1))(n:As .AN H g (a1.f.2.2.2.2.2.2)){r:(List Bool)}(h:G2 a0 a1=TI r):Ok prog 30 [.agg #[No a0.1.1,a,No a0.2.1.1,b,c],.agg #[No a1.f.1,d,Pg a1.f.2.2.1,e,No a1.f.2.2.2.2.1,No a1.f.2.2.2.2.2.1,g]] w (λv w'=>Ext w w'/\∃o,v=o/\B2 4 .bool H w w' o r):=AbD 1000 w H hH hU i j k l m n h
def I0(a:SB):Option RX:=
 TI (a,(0,0))
def Ek(a2:List Bool)(c:(List Bool)):SB×Int->Option (KP⊕RX):=λ⟨b,a⟩=>
 if a<(c.length:Int)then Ay (0<=a/\a<(c.length:Int)) (if c.getD a.toNat Qq7 then Ay (0<=a/\a<(a2.length:Int)) (if a2.getD a.toNat Qq7 then Ay (Go.E.Dx 8 (b.length+([a]).length)) (Ay (AL (a+1)) (TI (Sum.inl ((b++[a]),(a+1)))))else Ay (AL (a+1)) (TI (Sum.inl (b,(a+1)))))else Ay (AL (a+1)) (TI (Sum.inl (b,(a+1)))))else Sh Sum.inr (I0 b)
def I1(a2:List Bool)(a:(List Bool))(s:KP):Option RX:=Go.L.run (Ek a2 a) s
def DB(a0:PR)(a1:Qv)(a2:List Bool):Option RX:=
 Xd (Gk a1) (λa=>if a.1=0/\a.2=0 then Xd (Bc ((a0.1.1,a0.1.2),(a0.2.1.1,a0.2.1.2),a0.2.2)) (λc=>if(a2.length:Int)=c then Xd (G2 ((a0.1.1,a0.1.2),(a0.2.1.1,a0.2.1.2),a0.2.2) a1) (λd=>(I1 a2 d) (([]:SB),0))else Xd (C5 (9:Int) (-2:Int)) (λb=>TI ([],(b.1,b.2))))else TI ([],(a.1,a.2)))
theorem I2(hU:E1 H){a0:PR}{a1:Qv}{a2:List Bool}{o p s u x y z:Value}(ao:As (.pair .st (.vec TD)) H o (a0.1.2))(ap:As (.pair Xp (.vec (.int .i64))) H p (a0.2.1.2))(aq:As Xl H s (a0.2.2))(ar:As .st H u (a1.f.2.1))(au:As .byte H x (a1.f.2.2.2.1))(av:As .AN H y (a1.f.2.2.2.2.2.2))(bl:As .bool H z a2){r:RX}(h:DB a0 a1 a2=TI r):
  Pd 10 [.agg #[No a0.1.1,o,No a0.2.1.1,p,s],.agg #[No a1.f.1,u,Pg a1.f.2.2.1,x,No a1.f.2.2.2.2.1,No a1.f.2.2.2.2.2.1,y],z] w (λv w'=>∃u0,v=.tuple #[u0,.agg #[No r.2.1,No r.2.2]]/\B2 3 (.int .i64) H w w' u0 (r.1)):=by
 refine Ai 47 [(0,.agg #[No a0.1.1,o,No a0.2.1.1,p,s]),(1,.agg #[No a1.f.1,u,Pg a1.f.2.2.1,x,No a1.f.2.2.2.2.1,No a1.f.2.2.2.2.2.1,y]),(2,z)] func10 Z λhL=>A5<|B6 (t:=37) Z Z hL λw1 b1 b5 cn _=>B6 (t:=27) Z Z b5 λw2 b2 b8 co _=>AK 1 Z<|Aq Av.e Z b8 λw3 b3 bk cp _=>AR ?_;refine Ah h λx4 b9 h=>Al bk (K8 (a0:=a1) _ _ (Ae bk) (hU.mono  Ad) (ar.mono  Ad) (au.mono  Ad) (av.mono  Ad) b9) λw5 c4 ca cq=>Aq Av.e Z ca λw6 b6 cc cr _=>Ac 0 Z cc Z λw7 aw cs=>Af ?_;refine AJ (A8 (λ_=>Bo _))<|AJ (I4 Ge (KO _ _ _ _))<|Ap<|Bt h ?_ ?_<;>intro cd h
 ·refine BF (.q 0 (.q 1 (.tail 2))) mixed SF (λc5 bm=>?_);have ax:=aw.call bm;refine Bh Z (C6 0 Z Av.e ax Z) Z<|Br 1 Z<|AT (λc6 bn=>?_);have bo:=ax.call bn;refine Ac 1 Z bo Z λc7 ay ce=>Af ?_
  cases h
  refine AP (.tmp Z) (.cell Z QW Z Av.e (box_pT 1 ay Z)) ⟨ay.ext,_,Z,B2.nil⟩
 refine AR ?_;refine Ah h λc8 bp h=>Al aw (BC (a0:=((a0.1.1,a0.1.2),(a0.2.1.1,a0.2.1.2),a0.2.2)) _ _ (Ae aw) (ao.mono  Ad) (ap.mono  Ad) (aq.mono  Ad) bp) λc9 ct ah cf=>BJ 1 Z<|Bt h ?_ ?_<;>intro bq h
 ·refine A5<|Ah h λda br h=>Al ah (Cp _ _ (Ae ah) br) λdb cu bs cg=>AK 1 Z<|Ac 1 Z bs Z λdc az ch=>Af ?_
  cases h
  refine AP (.tmp Z) (.cell Z QW Z Av.e (box_pT 1 az Z)) ⟨az.ext,_,Z,B2.nil⟩
 obtain⟨ai,ci,aj⟩:=B3 (.int .i64) H 3 ah;refine Af ?_;refine AA (SB×Value×LR) (λ⟨ae,aa,k⟩=>[(7,(SX b3)),(9,aa)]) (λ⟨ae,aa,k⟩ wr=>Cd w [.row aa 3 1 (ae).length k,.box b6 [No x4.1,No x4.2] 39,.box b3 [No 0,No 0] 39,.box b2 [No a1.f.1,u,Pg a1.f.2.2.1,x,No a1.f.2.2.2.2.1,No a1.f.2.2.2.2.2.1,y] 27,.box b1 [No a0.1.1,o,No a0.2.1.1,p,s] 37] wr λOz=>Ao (.int .i64) (gz H w wr Oz) ae k/\I0 ae=TI r) ?_ ?_
 ·refine Af ?_;refine Ah h λa3 bt h=>A9 ai (QkA (a0:=((a0.1.1,a0.1.2),(a0.2.1.1,a0.2.1.2),a0.2.2)) (a1:=a1) _ _ (Ae ai) (hU.mono  Ad) (ao.mono  Ad) (ap.mono  Ad) (aq.mono  Ad) (ar.mono  Ad) (au.mono  Ad) (av.mono  Ad) bt) ?_;rintro ak dd ⟨_,rfl,a4⟩ bu bv ba;have a5:=a4.BB hH ai bu;refine Af ?_;refine A4 ?_;obtain⟨af,h⟩:=Ax h;have aj:=aj.mono (Aa ba)
  refine AF (SB×Int×Value×LR×Nat) (λ⟨d,a,e,b,n⟩=>[(2,z),(7,(SX b3)),(9,e),(26,ak),(27,No (a3.length:Int)),(28,No a)]) (λ⟨d,a,e,b,n⟩ wr=>Cd w [.row e 3 1 (d).length b,.box b6 [No x4.1,No x4.2] 39,.box b3 [No 0,No 0] 39,.box b2 [No a1.f.1,u,Pg a1.f.2.2.1,x,No a1.f.2.2.2.2.1,No a1.f.2.2.2.2.2.1,y] 27,.box b1 [No a0.1.1,o,No a0.2.1.1,p,s] 37] wr λOz=>As .bool (gz H w wr Oz) ak a3/\Ao (.int .i64) (gz H w wr Oz) d b/\D6 (Ek a2 a3) n (d,a)=TI r) (λ⟨d,a,e,b,n⟩=>n) (([]:SB),0,TO,[],af) Z ⟨bv,a5,aj,h⟩ ?_;rintro⟨d,a,e,b,nn97⟩ cv ⟨j,c,g,h⟩;obtain⟨af,de,rfl,h,ab⟩:=Aw h;refine AR ?_;refine Ar h ?_ ?_<;>intro bw h
  ·refine AR ?_;refine Ag h λal h=>A1 c a.toNat (BP al) (An al) ?_;rintro cw _ rfl bb;refine sH bb (Ae j)<|Af ?_;refine Cf 34 h ?_ ?_<;>intro am h
   ·refine Af ?_;refine Ag h λan h=>A1 bl a.toNat (BP an) (An an) ?_;rintro cx _ rfl bc;refine Aj am<|sH bc (hH.trans j.arg)<|Af ?_;refine AH h ?_ ?_<;>intro bd h
    ·refine Af ?_;refine Bi [a] (r:=(.int .i64)) (λ_=>Fy _ _) j (.c1 Z .nil) λcy cz cj be ag bf=>Ag h λbg h=>?_;have g:=g.mono (Aa ag);refine Bf (r:=(.int .i64)) 0 d [a] Z VV be Z g bf bg λbx c0 bh bi a6 bj=>Ag h λck h=>Af ?_;have h:=AX.again h ab;have c:=c.mono (Aa (ag.trans a6));refine Ak (_,_,_,_,_) Z ⟨bi,c,bj,h⟩
    refine Ag h λcl h=>Af ?_;have h:=AX.again h ab;refine Ak (_,_,_,_,_) Z ⟨j,c,g,h⟩
   refine Af ?_;refine BO<|Ag h λcm h=>Af ?_;have h:=AX.again h ab;refine Ak (_,_,_,_,_) Z ⟨j,c,g,h⟩
  have h:=AX.out h ab;refine Af ?_;refine Am (_,_,_) ⟨j,g,h⟩
 rintro⟨ae,aa,k⟩ c2 ⟨bz,ac,h⟩;refine FA 1 Z<|AJ (A8 (λ_=>Bo _))<|AK 1 Z<|Ac 2 Z bz Z λc3 ad a7=>Af ?_
 cases h
 refine AP (.tmp Z) (.cell Z QW Z Av.e (box_pT 2 ad Z)) ?_;have ac:=ac.mono (Aa a7);exact⟨ad.ext,_,Z,(ad.Ev hH (i:=0) Z ac)⟩
def Mi(a0:Wl):Option Wl:=
 TI a0
theorem Am8{a0:Wl}{a:Value}(b:As .byte H a a0){r:Wl}(h:Mi a0=TI r):
  Pd 56 [a] w (λv w'=>∃c,v=c/\As .byte (un H (nw w w')) c r):=by
 refine Ai 9 [(0,a)] func56 Z λhL=>Af ?_;refine Amf b λe d=>Af ?_
 cases h
 refine AD Z ⟨hL.ext,_,Z,(d.mono (Mn hH))⟩
def Abv(a0:PR)(a1 a2 a3:Int):Option (Wl×Zv):=
 Ay (0<=a1/\a1<(a0.2.2.length:Int)) (Xd (EJ ((a0.2.2.getD a1.toNat Qq7).1,(a0.2.2.getD a1.toNat Qq7).2.1,(a0.2.2.getD a1.toNat Qq7).2.2)) (λa=>if(a2<0)\/(a<a2)then none else(if(a3<a2)\/(a<a3)then none else Ay (0<=a1/\a1<(a0.2.2.length:Int)) (Xd (Ac6 ((a0.2.2.getD a1.toNat Qq7).1,(a0.2.2.getD a1.toNat Qq7).2.1,(a0.2.2.getD a1.toNat Qq7).2.2) a2 a3) (λb=>Xd (Mi b.1) (λc=>TI (c,(0,0))))))))
def JK(a0:PR)(a1 a2 a3:Int)(a4:List Bool):Option (Wl×Zv):=
 if a1<0 then none else Xd (Bc ((a0.1.1,a0.1.2),(a0.2.1.1,a0.2.1.2),a0.2.2)) (λb=>if b<=a1 then none else Xd (Bc ((a0.1.1,a0.1.2),(a0.2.1.1,a0.2.1.2),a0.2.2)) (λc=>if(a4.length:Int)=c then Ay (0<=a1/\a1<(a4.length:Int)) (if !(a4.getD a1.toNat Qq7)then Xd (C5 (20:Int) (-1:Int)) (λa=>TI ([],(a.1,a.2)))else(Abv a0 a1 a2 a3))else none))
theorem L9{a0:PR}{a1 a2 a3:Int}{a4:List Bool}{c d e j:Value}(m:As (.pair .st (.vec TD)) H c (a0.1.2))(o:As (.pair Xp (.vec (.int .i64))) H d (a0.2.1.2))(f:As Xl H e (a0.2.2))(af:As .bool H j a4){r:Wl×Zv}(h:JK a0 a1 a2 a3 a4=TI r):
  Pd 23 [.agg #[No a0.1.1,c,No a0.2.1.1,d,e],No a1,No a2,No a3,j] w (λv w'=>∃u0,v=.tuple #[u0,.agg #[No r.2.1,No r.2.2]]/\As .byte (un H (nw w w')) u0 (r.1)):=by
 refine Ai 78 [(0,.agg #[No a0.1.1,c,No a0.2.1.1,d,e]),(1,No a1),(2,No a2),(3,No a3),(4,j)] func23 Z λhL=>A5<|B6 (t:=37) Z Z hL λw1 b1 ba bl _=>AK 1 Z<|Aq Av.e Z ba λw2 b2 ae bm _=>Ap<|AA Unit (λ(_:Unit)=>[(1,No a1),(2,No a2),(3,No a3),(5,(SX b1)),(11,(SX b2))]) (λ(_:Unit) wr=>AB w [.box b2 [No 0,No 0] 39,.box b1 [No a0.1.1,c,No a0.2.1.1,d,e] 37] wr/\(Abv a0 a1 a2 a3)=TI r) ?_ ?_
 ·refine AR ?_;refine Bl 18 h ?_ ?_<;>intro ag h
  ·refine Af ?_;refine Cm ?_
   cases h
  refine Af ?_;refine Ah h λbs ah h=>Al ae (BC (a0:=((a0.1.1,a0.1.2),(a0.2.1.1,a0.2.1.2),a0.2.2)) _ _ (Ae ae) (m.mono  Ad) (o.mono  Ad) (f.mono  Ad) ah) λbt bn p bc=>Af ?_;refine Ar h ?_ ?_<;>intro ai h
  ·cases h
  refine Af ?_;refine Ah h λbu aj h=>Al p (BC (a0:=((a0.1.1,a0.1.2),(a0.2.1.1,a0.2.1.2),a0.2.2)) _ _ (Ae p) (m.mono  Ad) (o.mono  Ad) (f.mono  Ad) aj) λbv bo g bd=>BJ 2 Z<|Bt h ?_ ?_<;>intro ak h
  ·cases h
  refine FA 2 Z<|Ag h λq h=>A1 af a1.toNat (BP q) (An q) ?_;rintro bw _ rfl al;refine sH al (hH.trans g.arg)<|BJ 2 Z<|AH h ?_ ?_<;>intro am h
  ·refine A5<|Ah h λbx an h=>Al g (Cp _ _ (Ae g) an) λbz bp ao be=>AK 1 Z<|Ac 0 Z ao Z λb0 s bf=>Af ?_
   cases h
   refine AP (.tmp Z) (.cell Z QW Z Av.e (box_pT 0 s Z)) ⟨s.ext,_,Z,(As.nil _ _)⟩
  refine Af ?_;refine Am () ⟨g,h⟩
 rintro _ bq ⟨k,h⟩;refine Af ?_;refine Ag h λu h=>A1 f a1.toNat (BP u) (An u) ?_;rintro b3 _ ⟨_,_,rfl,⟨e49v0,rfl,e49h0⟩,⟨_,_,rfl,⟨e49v1,rfl,e49h1⟩,⟨e49v2,rfl,e49h2⟩⟩⟩ ap;refine AJ (AU ap (hH.trans k.arg))<|Ah h λb4 aq h=>Al k (EU _ _ (Ae k) (((a0.2.2.getD a1.toNat Qq7).1,(a0.2.2.getD a1.toNat Qq7).2.1,(a0.2.2.getD a1.toNat Qq7).2.2)) (e49h0.mono  Ad) (e49h1.mono  Ad) (e49h2.mono  Ad) aq) λb5 br i bg=>AR ?_;refine Vj 3 2 Z Z Z Z Z Z<|BJ 1 Z<|Ar h ?_ ?_<;>intro ar h
 ·cases h
 refine FA 4 Z<|Vj 3 3 Z Z Z Z Z Z<|BJ 1 Z<|Ar h ?_ ?_<;>intro au h
 ·cases h
 refine Af ?_;refine Ag h λx h=>A1 f a1.toNat (BP x) (An x) ?_;rintro b6 _ ⟨_,_,rfl,⟨e59v0,rfl,e59h0⟩,⟨_,_,rfl,⟨e59v1,rfl,e59h1⟩,⟨e59v2,rfl,e59h2⟩⟩⟩ av;refine AJ (AU av (hH.trans i.arg))<|AK 2 Z<|Ah h λb7 aw h=>A9 i (Qzd (a0:=((a0.2.2.getD a1.toNat Qq7).1,(a0.2.2.getD a1.toNat Qq7).2.1,(a0.2.2.getD a1.toNat Qq7).2.2)) _ _ (Ae i) (e59h0.mono  Ad) (e59h1.mono  Ad) (e59h2.mono  Ad) aw) ?_;rintro _ b8 ⟨bh,rfl,y⟩ ax ay bi;have a:=y.BB hH i ax;refine AK 3 Z<|Aq Av.e Z ay λb9 ca az ab _=>AK 1 Z<|Ac 0 Z az Z λcb l ac=>Af ?_;refine Ah h λcc a5 h=>?_;have a:=a.mono (Aa (ab.trans ac));refine A9 l (Am8 _ _ (Ae l) a a5) ?_;rintro bj cd ⟨_,rfl,z⟩ a6 a7 bk;have b:=z.mono (Da l a6);refine AJ (A8 (λ_=>Bo _))<|AK 1 Z<|Ac 1 Z a7 Z λce aa ad=>Af ?_
 cases h
 refine AP (.tmp Z) (.cell Z QW Z Av.e (box_pT 1 aa Z)) ?_;have b:=b.mono (Aa ad);exact⟨aa.ext,_,Z,(b.mono  Dl)⟩
end
def Sd(d:Qm×Pv):Prop:=d.1.length<=1048576/\Sm 1048576 10 d.2
theorem AdY(i:Nat)(l:Sa):(∀t∈l,t.length<=2048)->Of i l=none:=by
 induction l generalizing i with
 | nil=>intro _;rfl
 | cons a l ih=>
  intro h;have:=h a (List.mem_cons_self ..);unfold Of;rw[Pb U];exact ih _ λt ht=>h t (List.mem_cons_of_mem _ ht)
def Tb:((Int×(List (Qm×(List Zv))))×(Int×(List ((Qm×Int×Int×Qm)×SB)))×(List ((SB)×SB×SB))):=(((0:Int),[]),((0:Int),[]),[])
end Go.Proofs.YtgaljodghpgdmaaGreatDoor
end
noncomputable section
namespace Go
abbrev Z1:=(List Li)×Int
end Go
namespace Go.Proofs.YtgaljodghpgdmaaGreatDoor
open Go Go.E Go.RowKit Go.L
set_option maxHeartbeats 1000000
set_option maxRecDepth 10000
open _root_.Go.Proofs.Tryz
def Fv(a0:Pv)(d:List Li)(a:Int)(self:Pv->Wl->Option ((List Li)))(b:Wl):Option (Z1⊕((List Li))):=
 Ay (0<=a/\a<(a0.f.2.2.2.2.length:Int)) (Xd (self (a0.f.2.2.2.2.getD a.toNat Qq7) b) (λc=>Ay (Go.E.Dx 48 (d.length+c.length)) (Ay (AL (a+1)) (TI (Sum.inl ((d++c),(a+1)))))))
def Fw(a0:Pv)(a1:Wl)(c:List Li)(b:Int)(self:Pv->Wl->Option ((List Li)))(a:Wl):Option (Z1⊕((List Li))):=
 if a1=([]:Wl)then(Fv a0 c b self) a else Ay (a1.length+([47]:Wl).length<=9223372036854775807) (Ay ((a1++([47]:Wl)).length+a.length<=9223372036854775807) ((Fv a0 c b self) ((a1++([47]:Wl))++a)))
def JL(a:List Li):Option ((List Li)):=
 TI a
def DP(a0:Pv)(a1:Wl)(self:Pv->Wl->Option ((List Li))):(List Li)×Int->Option (Z1⊕((List Li))):=λ⟨b,a⟩=>
 if a<(a0.f.2.2.2.2.length:Int)then(if a0.f.1=4 then Ay (0<=a/\a<(a0.f.2.2.2.1.length:Int)) ((Fw a0 a1 b a self) (a0.f.2.2.2.1.getD a.toNat Qq7))else(Fw a0 a1 b a self) ([35]:Wl))else Sh Sum.inr (JL b)
def NM(a0:Pv)(a1:Wl)(self:Pv->Wl->Option ((List Li)))(s:Z1):Option ((List Li)):=Go.L.run (DP a0 a1 self) s
def J7(self:Pv->Wl->Option ((List Li)))(a0:Pv)(a1:Wl):Option ((List Li)):=
 (NM a0 a1 self) ([(a1,a0.f.1,a0.f.2.1,a0.f.2.2.1)],0)
def Kk(self:Pv->Wl->Option ((List Li))):Prop:=∀(w:World) (H:PH) (hH:Le H (hp w)) {a0:Pv}{a1:Wl}{a:Value}{b:Value}{c:Value} (e:As .byte H a (a0.f.2.2.1)) (g:As .st H b (a0.f.2.2.2.1)) (i:As .tree H c (a0.f.2.2.2.2)) {r:(List Li)} (h:self a0 a1=TI r),Ok prog 62 [.agg #[No a0.f.1,No a0.f.2.1,a,b,c],Pg a1] w (λv w'=>Ext w w'/\∃d,v=d/\B2 132 Xp H w w' d r)
def GB:Nat->Pv->Wl->Option ((List Li))
 | 0=>λ_ _=>none
 | n+1=>J7 (GB n)
def Hp:Pv->Wl->Option ((List Li)):=GB 1000
def Qjv(self:Pv->Wl->Option ((List Li)))(hself:Kk self):Kk (J7 self):=by
 intro w H hH a0 a1 q s u a3 a4 a5 r h;unfold Kk at hself;refine Ai 49 [(0,.agg #[No a0.f.1,No a0.f.2.1,q,s,u]),(1,(Pg a1))] func62 Z λhL=>A5<|B6 (t:=54) Z Z hL λw1 z az bf _=>Af ?_;refine AJ (O3 a3 (hH.trans az.arg))<|AJ (A8 (λ_=>QzB _ Z _ _ _ Z _))<|KY [(a1,a0.f.1,a0.f.2.1,a0.f.2.2.1)] (r:=Xp) (λ_=>Acj _ _ _ _ _) (Bk 1) hH az (.c4 ⟨_,_,Z,Z,⟨_,_,Z,Z,⟨_,_,Z,Z,Z⟩⟩⟩ .nil) λv2 w2 a9 ba bh bb=>BJ 1 Z<|AA ((List Li)×Value×LR) (λ⟨y,v,o⟩=>[(5,v)]) (λ⟨y,v,o⟩ wr=>Cd w [.row v 132 4 (y).length o,.box z [No a0.f.1,No a0.f.2.1,q,s,u] 54] wr λOz=>Ao Xp (gz H w wr Oz) y o/\JL y=TI r) ?_ ?_
 ·refine Bx 1 Z<|A4 ?_;obtain⟨ad,h⟩:=Ax h;refine AF ((List Li)×Int×Value×LR×Nat) (λ⟨d,a,e,b,n⟩=>[(1,(Pg a1)),(2,(SX z)),(5,e),(6,No a)]) (λ⟨d,a,e,b,n⟩ wr=>Cd w [.row e 132 4 (d).length b,.box z [No a0.f.1,No a0.f.2.1,q,s,u] 54] wr λOz=>Ao Xp (gz H w wr Oz) d b/\D6 (DP a0 a1 self) n (d,a)=TI r) (λ⟨d,a,e,b,n⟩=>n) ([(a1,a0.f.1,a0.f.2.1,a0.f.2.2.1)],0,v2,a9,ad) Z ⟨ba,bb,h⟩ ?_;rintro⟨d,a,e,b,nn86⟩ bi ⟨x,c,h⟩;obtain⟨ad,a2,rfl,h,ae⟩:=Aw h;refine AR ?_;refine Ar h ?_ ?_<;>intro a6 h
  ·refine Af ?_;refine tJ<|Bx 1 Z<|AA Wl (λg=>[(1,(Pg a1)),(2,(SX z)),(5,e),(6,No a),(7,(Pg g))]) (λg wr=>Cd w [.row e 132 4 (d).length b,.box z [No a0.f.1,No a0.f.2.1,q,s,u] 54] wr λOz=>Ao Xp (gz H w wr Oz) d b/\(Fw a0 a1 d a self) g=TI a2) ?_ ?_
   ·refine Af ?_;refine Ar h ?_ ?_<;>intro a7 h
    ·refine Af ?_;refine Ag h λaa h=>A1 a4 a.toNat (BP aa) (An aa) ?_;rintro bj _ rfl ak;refine sH ak (hH.trans x.arg)<|Af ?_;refine Am _ ⟨x,c,h⟩
    refine Ca<|Am _ ⟨x,c,h⟩
   rintro g bk ⟨af,c,h⟩;refine AA Wl (λj=>[(1,(Pg a1)),(2,(SX z)),(5,e),(6,No a),(7,(Pg j))]) (λj wr=>Cd w [.row e 132 4 (d).length b,.box z [No a0.f.1,No a0.f.2.1,q,s,u] 54] wr λOz=>Ao Xp (gz H w wr Oz) d b/\(Fv a0 d a self) j=TI a2) ?_ ?_
   ·refine FA 1 Z<|AJ (ND Z Z)<|Ap<|Bt h ?_ ?_<;>intro al h
    ·refine Af ?_;refine Ag h λam h=>AJ (De am)<|AK 1 Z<|Ag h λan h=>AJ (De an)<|Af ?_;refine Am _ ⟨af,c,h⟩
    refine Ca<|Am _ ⟨af,c,h⟩
   rintro j bd ⟨p,c,h⟩;refine Af ?_;refine Ag h λab h=>A1 a5 a.toNat (BP ab) (An ab) ?_;rintro bl _ e120t0 ao;obtain⟨_,_,rfl,rfl,⟨_,_,rfl,rfl,⟨_,_,rfl,⟨e120v2,rfl,e120h2⟩,⟨_,_,rfl,⟨e120v3,rfl,e120h3⟩,⟨e120v4,rfl,e120h4⟩⟩⟩⟩⟩:=Go.E.Rp.F6 e120t0;refine AJ (AU ao (hH.trans p.arg))<|AK 1 Z<|Ah h λag ap h=>A9 p (hself _ _ (Ae p) (e120h2.mono  Ad) (e120h3.mono  Ad) (e120h4.mono  Ad) ap) ?_;rintro bc bm ⟨_,rfl,ac⟩ aq ar ah;have k:=ac.BB hH p aq;have c:=c.mono (Aa ah);refine Ag h λau h=>Bf (r:=Xp) 0 d ag Z IL ar Z c k au ?_;intro a8 bn av aw ai ax;have k:=k.mono (Aa ai);refine Ag h λbe h=>Af ?_;have h:=AX.again h ae;refine Ak (_,_,_,_,_) Z ⟨aw,ax,h⟩
  have h:=AX.out h ae;refine Af ?_;refine Am (_,_,_) ⟨x,c,h⟩
 rintro⟨y,v,o⟩ bo ⟨aj,ay,h⟩;refine Af ?_
 cases h
 refine AD Z ⟨aj.ext,_,Z,(aj.Ev hH (i:=0) Z ay)⟩
theorem Qzw(n:Nat):Kk (GB n):=by
 induction n with
 | zero=>unfold Kk;intros;rename_i h;cases h
 | succ n ih=>exact Qjv (GB n) ih
section
variable(w:World)(H:PH)(hH:Le H (hp w)) include hH
theorem Jn{a0:Pv}{a1:Wl}{a b c:Value}(d:As .byte H a (a0.f.2.2.1))(e:As .st H b (a0.f.2.2.2.1))(g:As .tree H c (a0.f.2.2.2.2)){r:(List Li)}(h:Hp a0 a1=TI r):Ok prog 62 [.agg #[No a0.f.1,No a0.f.2.1,a,b,c],Pg a1] w (λv w'=>Ext w w'/\∃i,v=i/\B2 132 Xp H w w' i r):=Qzw 1000 w H hH d e g h
def N7:Option Bool:=
 TI false
def J8(a1:Wl)(b:(List Li)):Int->Option ((Int)⊕(Bool)):=λa=>
 if a<(b.length:Int)then Ay (0<=a/\a<(b.length:Int)) (Xd (Fz a1 ((b.getD a.toNat Qq7).1)) (λc=>if c then Sh Sum.inr (TI true)else Ay (AL (a+1)) (TI (Sum.inl (a+1)))))else Sh Sum.inr N7
def AgG(a1:Wl)(a:(List Li))(s:Int):Option Bool:=Go.L.run (J8 a1 a) s
def Oi(a0:Pv)(a1:Wl):Option Bool:=
 Xd (Hp a0 ([]:Wl)) (λa=>(AgG a1 a) (0:Int))
theorem Qjq{a0:Pv}{a1:Wl}{c d e:Value}(s:As .byte H c (a0.f.2.2.1))(u:As .st H d (a0.f.2.2.2.1))(x:As .tree H e (a0.f.2.2.2.2)){r:Bool}(h:Oi a0 a1=TI r):
  Pd 36 [.agg #[No a0.f.1,No a0.f.2.1,c,d,e],Pg a1] w (λv w'=>v=.bool r):=by
 refine Ai 22 [(0,.agg #[No a0.f.1,No a0.f.2.1,c,d,e]),(1,(Pg a1))] func36 Z λhL=>A5<|B6 (t:=54) Z Z hL λw1 b1 j aj _=>Af ?_;refine Ah h λx2 ag h=>A9 j (Jn (a0:=a0) _ _ (Ae j) (s.mono  Ad) (u.mono  Ad) (x.mono  Ad) ag) ?_;rintro k w3 ⟨_,rfl,o⟩ ah ai ak;have p:=o.BB hH j ah;refine BJ 1 Z<|AA Unit (λ(_:Unit)=>[]) (λ(_:Unit) wr=>AB w [.box b1 [No a0.f.1,No a0.f.2.1,c,d,e] 54] wr/\N7=TI r) ?_ ?_
 ·refine Bx 1 Z<|A4 ?_;obtain⟨l,h⟩:=Ax h;refine AF (Int×Nat) (λ⟨a,n⟩=>[(1,(Pg a1)),(5,k),(6,No a)]) (λ⟨a,n⟩ wr=>Cd w [.box b1 [No a0.f.1,No a0.f.2.1,c,d,e] 54] wr λOz=>As Xp (gz H w wr Oz) k x2/\D6 (J8 a1 x2) n a=TI r) (λ⟨a,n⟩=>n) (0,l) Z ⟨ai,p,h⟩ ?_;rintro⟨a,nn48⟩ al ⟨g,b,h⟩;obtain⟨l,aq,rfl,h,i⟩:=Aw h;refine AR ?_;refine Ar h ?_ ?_<;>intro y h
  ·refine AR ?_;refine Ag h λm h=>A1 b a.toNat (BP m) (An m) ?_;rintro ar _ ⟨_,_,rfl,rfl,⟨_,_,rfl,rfl,⟨_,_,rfl,rfl,rfl⟩⟩⟩ z;refine Af ?_;have aa:=z.add 0;refine sH aa (Ae g)<|Ah h λau ab h=>Al g (Ny _ _ (Ae g) ab) λav am ac q=>Ap<|AH h ?_ ?_<;>intro ad h
   ·have h:=AX.out h i;exact Bu
   refine Ag h λan h=>Af ?_;have h:=AX.again h i;have b:=b.mono (Aa q);refine Ak (_,_) Z ⟨ac,b,h⟩
  have h:=AX.out h i;refine Af ?_;refine Am () ⟨g,h⟩
 rintro _ ao ⟨ap,h⟩;exact Bu
def LA:Option Bool:=
 TI false
def HP(a1:Wl)(a2 a3:Int)(b:(List Li)):Int->Option ((Int)⊕(Bool)):=λa=>
 if a<(b.length:Int)then Ay (0<=a/\a<(b.length:Int)) (if(b.getD a.toNat Qq7).2.1=1 then Ay (0<=a/\a<(b.length:Int)) (Xd (Eb ((b.getD a.toNat Qq7).2.2.1) a2 a3) (λc=>if c then Ay (0<=a/\a<(b.length:Int)) (Xd (Fz a1 ((b.getD a.toNat Qq7).1)) (λd=>if d then Sh Sum.inr (TI true)else Ay (AL (a+1)) (TI (Sum.inl (a+1)))))else Ay (AL (a+1)) (TI (Sum.inl (a+1)))))else Ay (AL (a+1)) (TI (Sum.inl (a+1))))else Sh Sum.inr LA
def Pw(a1:Wl)(a2 a3:Int)(a:(List Li))(s:Int):Option Bool:=Go.L.run (HP a1 a2 a3 a) s
def LC(a0:Pv)(a1:Wl)(a2 a3:Int):Option Bool:=
 Xd (Hp a0 ([]:Wl)) (λa=>(Pw a1 a2 a3 a) (0:Int))
theorem Ad1{a0:Pv}{a1:Wl}{a2 a3:Int}{e g i:Value}(al:As .byte H e (a0.f.2.2.1))(am:As .st H g (a0.f.2.2.2.1))(an:As .tree H i (a0.f.2.2.2.2)){r:Bool}(h:LC a0 a1 a2 a3=TI r):
  Pd 37 [.agg #[No a0.f.1,No a0.f.2.1,e,g,i],Pg a1,No a2,No a3] w (λv w'=>v=.bool r):=by
 refine Ai 44 [(0,.agg #[No a0.f.1,No a0.f.2.1,e,g,i]),(1,(Pg a1)),(2,No a2),(3,No a3)] func37 Z λhL=>A5<|B6 (t:=54) Z Z hL λw1 b1 s a5 _=>Af ?_;refine Ah h λx2 ar h=>A9 s (Jn (a0:=a0) _ _ (Ae s) (al.mono  Ad) (am.mono  Ad) (an.mono  Ad) ar) ?_;rintro u w3 ⟨_,rfl,y⟩ au av a6;have z:=y.BB hH s au;refine BJ 1 Z<|AA Unit (λ(_:Unit)=>[]) (λ(_:Unit) wr=>AB w [.box b1 [No a0.f.1,No a0.f.2.1,e,g,i] 54] wr/\LA=TI r) ?_ ?_
 ·refine Bx 1 Z<|A4 ?_;obtain⟨k,h⟩:=Ax h;refine AF (Int×Nat) (λ⟨b,n⟩=>[(1,(Pg a1)),(2,No a2),(3,No a3),(9,u),(10,No b)]) (λ⟨b,n⟩ wr=>Cd w [.box b1 [No a0.f.1,No a0.f.2.1,e,g,i] 54] wr λOz=>As Xp (gz H w wr Oz) u x2/\D6 (HP a1 a2 a3 x2) n b=TI r) (λ⟨b,n⟩=>n) (0,k) Z ⟨av,z,h⟩ ?_;rintro⟨b,nn96⟩ a7 ⟨c,a,h⟩;obtain⟨k,bh,rfl,h,j⟩:=Aw h;refine AR ?_;refine Ar h ?_ ?_<;>intro ao h
  ·refine AR ?_;refine Ag h λm h=>A1 a b.toNat (BP m) (An m) ?_;rintro a8 _ ⟨_,_,rfl,rfl,⟨_,_,rfl,rfl,⟨_,_,rfl,rfl,rfl⟩⟩⟩ aa;refine Af ?_;have ab:=aa.add 1;refine sH ab (Ae c)<|AK 2 Z<|Bl 25 h ?_ ?_<;>intro ac h
   ·refine Af ?_;refine Ag h λo h=>A1 a b.toNat (BP o) (An o) ?_;rintro a9 _ ⟨_,_,rfl,rfl,⟨_,_,rfl,rfl,⟨_,_,rfl,rfl,rfl⟩⟩⟩ ad;have ae:=ad.add 2;refine Af ?_;refine sH ae (Ae c)<|Af ?_;refine Ah h λba af h=>Al c (Db _ _ (Ae c) af) λbb aw d l=>Af ?_;refine Cf 35 h ?_ ?_<;>intro p h
    ·refine Af ?_;refine Ag h λq h=>?_;have a:=a.mono (Aa l);refine A1 a b.toNat (BP q) (An q) ?_;rintro bc _ ⟨_,_,rfl,rfl,⟨_,_,rfl,rfl,⟨_,_,rfl,rfl,rfl⟩⟩⟩ ag;have ah:=ag.add 0;refine Af ?_;refine sH ah (Ae d)<|Aj p<|Ah h λbd ai h=>Al d (Ny _ _ (Ae d) ai) λbe ax aj x=>Af ?_;refine AH h ?_ ?_<;>intro ak h
     ·have h:=AX.out h j;exact Bu
     refine Ag h λay h=>Af ?_;have h:=AX.again h j;have a:=a.mono (Aa x);refine Ak (_,_) Z ⟨aj,a,h⟩
    refine Af ?_;refine BO<|Ag h λaz h=>Af ?_;have h:=AX.again h j;have a:=a.mono (Aa l);refine Ak (_,_) Z ⟨d,a,h⟩
   refine Af ?_;refine BO<|Ag h λa4 h=>Af ?_;have h:=AX.again h j;refine Ak (_,_) Z ⟨c,a,h⟩
  have h:=AX.out h j;refine Af ?_;refine Am () ⟨c,h⟩
 rintro _ bf ⟨bg,h⟩;exact Bu
def M8:Option Bool:=
 TI false
def IE(a1:Wl)(a2:Wl)(b:(List Li)):Int->Option ((Int)⊕(Bool)):=λa=>
 if a<(b.length:Int)then Ay (0<=a/\a<(b.length:Int)) (if(b.getD a.toNat Qq7).2.1=2 then Ay (0<=a/\a<(b.length:Int)) (if(b.getD a.toNat Qq7).2.2.2=a2 then Ay (0<=a/\a<(b.length:Int)) (Xd (Fz a1 ((b.getD a.toNat Qq7).1)) (λc=>if c then Sh Sum.inr (TI true)else Ay (AL (a+1)) (TI (Sum.inl (a+1)))))else Ay (AL (a+1)) (TI (Sum.inl (a+1))))else Ay (AL (a+1)) (TI (Sum.inl (a+1))))else Sh Sum.inr M8
def Q3(a1:Wl)(a2:Wl)(a:(List Li))(s:Int):Option Bool:=Go.L.run (IE a1 a2 a) s
def MP(a0:Pv)(a1:Wl)(a2:Wl):Option Bool:=
 Xd (Hp a0 ([]:Wl)) (λa=>(Q3 a1 a2 a) (0:Int))
theorem Qka{a0:Pv}{a1 a2:Wl}{i j k m:Value}(ay:As .byte H i (a0.f.2.2.1))(az:As .st H j (a0.f.2.2.2.1))(a3:As .tree H k (a0.f.2.2.2.2))(a4:As .byte H m a2){r:Bool}(h:MP a0 a1 a2=TI r):
  Pd 38 [.agg #[No a0.f.1,No a0.f.2.1,i,j,k],Pg a1,m] w (λv w'=>v=.bool r):=by
 refine Ai 42 [(0,.agg #[No a0.f.1,No a0.f.2.1,i,j,k]),(1,(Pg a1)),(2,m)] func38 Z λhL=>A5<|B6 (t:=54) Z Z hL λw1 b1 ac bf _=>Af ?_;refine Ah h λx2 a7 h=>A9 ac (Jn (a0:=a0) _ _ (Ae ac) (ay.mono  Ad) (az.mono  Ad) (a3.mono  Ad) a7) ?_;rintro ad w3 ⟨_,rfl,ai⟩ a8 a9 bg;have aj:=ai.BB hH ac a8;refine BJ 1 Z<|AA Unit (λ(_:Unit)=>[]) (λ(_:Unit) wr=>AB w [.box b1 [No a0.f.1,No a0.f.2.1,i,j,k] 54] wr/\M8=TI r) ?_ ?_
 ·refine Bx 1 Z<|A4 ?_;obtain⟨l,h⟩:=Ax h;refine AF (Int×Nat) (λ⟨b,n⟩=>[(1,(Pg a1)),(2,m),(7,ad),(8,No b)]) (λ⟨b,n⟩ wr=>Cd w [.box b1 [No a0.f.1,No a0.f.2.1,i,j,k] 54] wr λOz=>As Xp (gz H w wr Oz) ad x2/\D6 (IE a1 a2 x2) n b=TI r) (λ⟨b,n⟩=>n) (0,l) Z ⟨a9,aj,h⟩ ?_;rintro⟨b,nn114⟩ ba ⟨o,a,h⟩;obtain⟨l,bh,rfl,h,g⟩:=Aw h;refine AR ?_;refine Ar h ?_ ?_<;>intro ak h
  ·refine AR ?_;refine BF (Zt 0 25 (.tail 25)) mixed SF (λbi p=>?_);have e:=o.call p;have ae:=A3 o p;refine Br 2 Z<|Ag h λu h=>?_;have a:=a.mono (Aa ae);refine Cj Z Z Z IL a b.toNat (BP u) (An u) Z ?_;rintro bj _ ⟨_,_,rfl,rfl,⟨_,_,rfl,rfl,⟨_,_,rfl,rfl,rfl⟩⟩⟩ al;refine Bh Z (A7 Z RF Z DW.e) Z ?_;have am:=al.add 1;refine Bh Z (B5 am (Ae e)) Z<|Br 2 Z<|FX 23 Z (λc=>?_) (λc=>?_)
   ·have h:=JP (Z4 c) h
    iterate 2 refine Cr Z (Az Z) Z Z Z c Z ?_
    refine Ag h λx h=>GP Z Z Z Z c Z Z IL a b.toNat (BP x) (An x) Z ?_;rintro bk _ ⟨_,_,rfl,rfl,⟨_,_,rfl,rfl,⟨_,_,rfl,rfl,rfl⟩⟩⟩ an;refine Cr Z (A7 Z RF Z E7.e) Z Z Z c Z ?_;have ao:=an.add 3;refine Cr Z (B5 ao (Ae e)) Z Z Z c Z<|Cr Z (Az Z) Z Z Z c Z<|Cr Z (O3 a4 (hH.trans e.arg)) Z Z Z c Z<|Cr Z (I5 Z Z) Z Z Z c Z<|Bh Z (CA c Z) Z<|Br 1 Z<|FX 33 Z (λd=>?_) (λd=>?_)
    ·have h:=JP (Z4 d) h
     iterate 3 refine Cr Z (Az Z) Z Z Z d Z ?_
     refine Ag h λy h=>GP Z Z Z Z d Z Z IL a b.toNat (BP y) (An y) Z ?_;rintro bl _ ⟨_,_,rfl,rfl,⟨_,_,rfl,rfl,⟨_,_,rfl,rfl,rfl⟩⟩⟩ ap;refine Cr Z (A7 Z RF Z E7.e) Z Z Z d Z ?_;have aq:=ap.add 0;refine Cr Z (B5 aq (Ae e)) Z Z Z d Z<|Ah h λbm ar h=>MC Z Z Z Z d Z Z (λbn bb=>Ny _ _ (Le.refl _) ar)<|Bh Z (CA d Z) Z<|AT (λbo z=>?_);have au:=e.call z;have af:=A3 e z;refine Ap<|AH h ?_ ?_<;>intro av h
     ·have h:=AX.out h g;exact Bu
     refine Ag h λbc h=>Af ?_;have h:=AX.again h g;have a:=a.mono (Aa af);refine Ak (_,_) Z ⟨au,a,h⟩
    have h:=JQ (of_decide_eq_false d) h
    iterate 7 refine Mm Z Z Z Z d Z ?_
    refine Bh Z (B4 d Z) Z<|AT (λbp aa=>?_);have aw:=e.call aa;have ag:=A3 e aa;refine Ap<|BO<|Ag h λbd h=>Af ?_;have h:=AX.again h g;have a:=a.mono (Aa ag);refine Ak (_,_) Z ⟨aw,a,h⟩
   have h:=JQ (of_decide_eq_false c) h
   iterate 8 refine Mm Z Z Z Z c Z ?_
   refine Bh Z (B4 c Z) Z<|Br 1 Z ?_
   iterate 7 refine Mm Z Z Z Z Z Z ?_
   refine Bh Z (B4 Z Z) Z<|AT (λbq ab=>?_);have ax:=e.call ab;have ah:=A3 e ab;refine Ap<|BO<|Ag h λbe h=>Af ?_;have h:=AX.again h g;have a:=a.mono (Aa ah);refine Ak (_,_) Z ⟨ax,a,h⟩
  have h:=AX.out h g;refine Af ?_;refine Am () ⟨o,h⟩
 rintro _ br ⟨bs,h⟩;exact Bu
def Nl(a0:Li)(a1:Li):Option Bool:=
 if a0.1=a1.1 then(if a0.2.1=a1.2.1 then(if a0.2.2.1=a1.2.2.1 then TI (Op.bytesLess a0.2.2.2 a1.2.2.2)else TI (decide (a0.2.2.1<a1.2.2.1)))else TI (decide (a0.2.1<a1.2.1)))else TI (Op.bytesLess a0.1 a1.1)
theorem Qky{a0 a1:Li}{r:Bool}(h:Nl a0 a1=TI r):
  Pd 108 [.agg #[Pg a0.1,No a0.2.1,No a0.2.2.1,Pg a0.2.2.2],.agg #[Pg a1.1,No a1.2.1,No a1.2.2.1,Pg a1.2.2.2]] w (λv w'=>v=.bool r):=by
 refine Ai 40 [(0,.agg #[Pg a0.1,No a0.2.1,No a0.2.2.1,Pg a0.2.2.2]),(1,.agg #[Pg a1.1,No a1.2.1,No a1.2.2.1,Pg a1.2.2.2])] func108 Z λhL=>A5<|B6 (t:=132) Z Z hL λi j a e _=>B6 (t:=132) Z Z a λk l g f _=>AR ?_;refine AJ (ND Z Z)<|Ap<|Bt h ?_ ?_<;>intro b h
 ·refine Af ?_;refine AJ (Alh Z Z)<|Bu
 refine AR ?_;refine Bt h ?_ ?_<;>intro c h
 ·exact Bu
 refine AR ?_;refine Bt h ?_ ?_<;>intro d h
 ·exact Bu
 refine Af ?_;refine AJ (Alh Z Z)<|Bu
def N8:Option Bool:=
 TI false
def F9(a0:List Li)(a1:Li):Int->Option ((Int)⊕(Bool)):=λa=>
 if a<(a0.length:Int)then Ay (0<=a/\a<(a0.length:Int)) (if(a0.getD a.toNat Qq7).1=a1.1/\(a0.getD a.toNat Qq7).2.1=a1.2.1/\(a0.getD a.toNat Qq7).2.2.1=a1.2.2.1/\(a0.getD a.toNat Qq7).2.2.2=a1.2.2.2 then Sh Sum.inr (TI true)else Ay (AL (a+1)) (TI (Sum.inl (a+1))))else Sh Sum.inr N8
def Qx7(a0:List Li)(a1:Li)(s:Int):Option Bool:=Go.L.run (F9 a0 a1) s
def J9(a0:List Li)(a1:Li):Option Bool:=
 (Qx7 a0 a1) (0:Int)
theorem RP{a0:List Li}{a1:Li}{b:Value}(i:As Xp H b a0){r:Bool}(h:J9 a0 a1=TI r):
  Pd 61 [b,.agg #[Pg a1.1,No a1.2.1,No a1.2.2.1,Pg a1.2.2.2]] w (λv w'=>v=.bool r):=by
 refine Ai 18 [(0,b),(1,.agg #[Pg a1.1,No a1.2.1,No a1.2.2.1,Pg a1.2.2.2])] func61 Z λhL=>A5<|B6 (t:=132) Z Z hL λw1 j u x _=>BJ 1 Z<|AA Unit (λ(_:Unit)=>[]) (λ(_:Unit) wr=>AB w [.box j [Pg a1.1,No a1.2.1,No a1.2.2.1,Pg a1.2.2.2] 132] wr/\N8=TI r) ?_ ?_
 ·refine Bx 1 Z<|A4 ?_;obtain⟨e,h⟩:=Ax h;refine AF (Int×Nat) (λ⟨a,n⟩=>[(0,b),(3,(SX j)),(5,No a)]) (λ⟨a,n⟩ wr=>AB w [.box j [Pg a1.1,No a1.2.1,No a1.2.2.1,Pg a1.2.2.2] 132] wr/\D6 (F9 a0 a1) n a=TI r) (λ⟨a,n⟩=>n) (0,e) Z ⟨u,h⟩ ?_;rintro⟨a,nn49⟩ y ⟨f,h⟩;obtain⟨e,ac,rfl,h,c⟩:=Aw h;refine AR ?_;refine Ar h ?_ ?_<;>intro k h
  ·refine AR ?_;refine BF (Zt 0 6 (.tail 6)) mixed SF (λad l=>?_);have d:=f.call l;refine Br 2 Z<|Ag h λg h=>Cj Z Z Z IL i a.toNat (BP g) (An g) Z ?_;rintro ae _ ⟨_,_,rfl,rfl,⟨_,_,rfl,rfl,⟨_,_,rfl,rfl,rfl⟩⟩⟩ m;refine Bh Z (AU m (hH.trans d.arg)) Z<|Bh Z (C6 0 Z BN.e d Z) Z<|Bh Z (W3 AlY (AmP _ _ _ _ _ _ _ _)) Z<|AT (λaf o=>?_);have p:=d.call o;refine Ap<|Ar h ?_ ?_<;>intro s h
   ·have h:=AX.out h c;exact Bu
   refine Ag h λz h=>Af ?_;have h:=AX.again h c;refine Ak (_,_) Z ⟨p,h⟩
  have h:=AX.out h c;refine Af ?_;refine Am () ⟨f,h⟩
 rintro _ aa ⟨ab,h⟩;exact Bu
def El(a:Int)(b:List Li):Option (Z1⊕(Z1⊕((List Li)))):=
 Ay (AL (a+1)) (TI (Sum.inl (b,(a+1))))
def DC(c:Int):(List Li)×Int->Option (Z1⊕(Z1⊕(Z1⊕((List Li))))):=λ⟨b,a⟩=>
 if 0<a then Ay (0<=a/\a<(b.length:Int)) (Ay (AL (a - 1)) (Ay (0<=(a - 1)/\(a - 1)<(b.length:Int)) (Xd (Nl ((b.getD a.toNat Qq7).1,(b.getD a.toNat Qq7).2.1,(b.getD a.toNat Qq7).2.2.1,(b.getD a.toNat Qq7).2.2.2) ((b.getD ((a - 1).toNat) Qq7).1,(b.getD ((a - 1).toNat) Qq7).2.1,(b.getD ((a - 1).toNat) Qq7).2.2.1,(b.getD ((a - 1).toNat) Qq7).2.2.2)) (λd=>if d then Ay (AL (a - 1)) (Ay (AL (a - 1)) (Ay (0<=(a - 1)/\(a - 1)<(b.length:Int)) (Ay (0<=a/\a<(b.length:Int)) (Ay (0<=a/\a<(b.length:Int)) (Ay (0<=(a - 1)/\(a - 1)<((b.set a.toNat ((b.getD ((a - 1).toNat) Qq7).1,(b.getD ((a - 1).toNat) Qq7).2.1,(b.getD ((a - 1).toNat) Qq7).2.2.1,(b.getD ((a - 1).toNat) Qq7).2.2.2)).length:Int)) (Ay (AL (a - 1)) (TI (Sum.inl (((b.set a.toNat ((b.getD ((a - 1).toNat) Qq7).1,(b.getD ((a - 1).toNat) Qq7).2.1,(b.getD ((a - 1).toNat) Qq7).2.2.1,(b.getD ((a - 1).toNat) Qq7).2.2.2)).set ((a - 1).toNat) ((b.getD a.toNat Qq7).1,(b.getD a.toNat Qq7).2.1,(b.getD a.toNat Qq7).2.2.1,(b.getD a.toNat Qq7).2.2.2)),(a - 1))))))))))else Sh Sum.inr ((El c) b)))))else Sh Sum.inr ((El c) b)
def Px(a:Int)(s:Z1):Option (Z1⊕(Z1⊕((List Li)))):=Go.L.run (DC a) s
def LD(a:Int)(b:List Li):Option (Z1⊕((List Li))):=
 Ay (AL (a+1)) (TI (Sum.inl (b,(a+1))))
def DD(d:Int)(b:(List Li)):(List Li)×Int->Option (Z1⊕(Z1⊕((List Li)))):=λ⟨c,a⟩=>
 if a<(b.length:Int)then Ay (0<=a/\a<(b.length:Int)) (Xd (J9 c ((b.getD a.toNat Qq7).1,(b.getD a.toNat Qq7).2.1,(b.getD a.toNat Qq7).2.2.1,(b.getD a.toNat Qq7).2.2.2)) (λe=>if e then(El a) c else Ay (0<=a/\a<(b.length:Int)) (Ay (Go.E.Dx 48 (c.length+([((b.getD a.toNat Qq7).1,(b.getD a.toNat Qq7).2.1,(b.getD a.toNat Qq7).2.2.1,(b.getD a.toNat Qq7).2.2.2)]).length)) (Ay (AL (((c++[((b.getD a.toNat Qq7).1,(b.getD a.toNat Qq7).2.1,(b.getD a.toNat Qq7).2.2.1,(b.getD a.toNat Qq7).2.2.2)]).length:Int) - 1)) ((Px a) ((c++[((b.getD a.toNat Qq7).1,(b.getD a.toNat Qq7).2.1,(b.getD a.toNat Qq7).2.2.1,(b.getD a.toNat Qq7).2.2.2)]),(((c++[((b.getD a.toNat Qq7).1,(b.getD a.toNat Qq7).2.1,(b.getD a.toNat Qq7).2.2.1,(b.getD a.toNat Qq7).2.2.2)]).length:Int) - 1)))))))else Sh Sum.inr ((LD d) c)
def Acs(a:Int)(b:(List Li))(s:Z1):Option (Z1⊕((List Li))):=Go.L.run (DD a b) s
def LF(a:List Li):Option ((List Li)):=
 TI a
def DE(a0:List Pv):(List Li)×Int->Option (Z1⊕((List Li))):=λ⟨b,a⟩=>
 if a<(a0.length:Int)then Ay (0<=a/\a<(a0.length:Int)) (Xd (Hp (a0.getD a.toNat Qq7) ([]:Wl)) (λc=>(Acs a c) (b,0)))else Sh Sum.inr (LF b)
def Pz(a0:List Pv)(s:Z1):Option ((List Li)):=Go.L.run (DE a0) s
def LG(a0:List Pv):Option ((List Li)):=
 (Pz a0) (([]:List Li),0)
theorem QkJ{a0:List Pv}{av:Value}(eo:As .tree H av a0){r:(List Li)}(h:LG a0=TI r):
  Pd 59 [av] w (λv w'=>∃u0,v=u0/\B2 132 Xp H w w' u0 r):=by
 refine Ai 74 [(0,av)] func59 Z λhL=>?_;obtain⟨eq,gk,er⟩:=B3 Xp H 132 hL;refine Af ?_;refine AA ((List Li)×Value×LR) (λ⟨bf,be,a5⟩=>[(3,be)]) (λ⟨bf,be,a5⟩ wr=>Cd w [.row be 132 4 (bf).length a5] wr λOz=>Ao Xp (gz H w wr Oz) bf a5/\LF bf=TI r) ?_ ?_
 ·refine Bx 1 Z<|A4 ?_;obtain⟨bm,h⟩:=Ax h;refine AF ((List Li)×Int×Value×LR×Nat) (λ⟨ao,t,al,ag,n⟩=>[(0,av),(3,al),(4,No t)]) (λ⟨ao,t,al,ag,n⟩ wr=>Cd w [.row al 132 4 (ao).length ag] wr λOz=>Ao Xp (gz H w wr Oz) ao ag/\D6 (DE a0) n (ao,t)=TI r) (λ⟨ao,t,al,ag,n⟩=>n) (([]:List Li),0,TO,[],bm) Z ⟨eq,er,h⟩ ?_;rintro⟨ao,t,al,ag,nn1345⟩ es ⟨aw,az,h⟩;obtain⟨bm,b8,rfl,h,bo⟩:=Aw h;refine AR ?_;refine Ar h ?_ ?_<;>intro ct h
  ·refine Af ?_;refine AA ((List Li)×Value×LR) (λ⟨a2,ax,aq⟩=>[(0,av),(3,ax),(4,No t)]) (λ⟨a2,ax,aq⟩ wr=>Cd w [.row ax 132 4 (a2).length aq] wr λOz=>Ao Xp (gz H w wr Oz) a2 aq/\(LD t) a2=TI b8) ?_ ?_
   ·refine AR ?_;refine Ag h λbp h=>A1 eo t.toNat (BP bp) (An bp) ?_;rintro e9 _ e1791t0 cu;obtain⟨_,_,rfl,rfl,⟨_,_,rfl,rfl,⟨_,_,rfl,⟨e1791v2,rfl,e1791h2⟩,⟨_,_,rfl,⟨e1791v3,rfl,e1791h3⟩,⟨e1791v4,rfl,e1791h4⟩⟩⟩⟩⟩:=Go.E.Rp.F6 e1791t0;refine AJ (AU cu (hH.trans aw.arg))<|Ah h λp cv h=>A9 aw (Jn (a0:=(a0.getD t.toNat Qq7)) _ _ (Ae aw) (e1791h2.mono  Ad) (e1791h3.mono  Ad) (e1791h4.mono  Ad) cv) ?_;rintro ak fa ⟨_,rfl,b5⟩ cw cx cc;have b6:=b5.BB hH aw cw;refine Af ?_;refine A4 ?_;obtain⟨bn,h⟩:=Ax h;have az:=az.mono (Aa cc)
    refine AF ((List Li)×Int×Value×LR×Nat) (λ⟨af,e,am,ah,n⟩=>[(0,av),(3,am),(4,No t),(5,ak),(6,No e)]) (λ⟨af,e,am,ah,n⟩ wr=>Cd w [.row am 132 4 (af).length ah] wr λOz=>As Xp (gz H w wr Oz) ak p/\Ao Xp (gz H w wr Oz) af ah/\D6 (DD t p) n (af,e)=TI b8) (λ⟨af,e,am,ah,n⟩=>n) (ao,0,al,ag,bn) Z ⟨cx,b6,az,h⟩ ?_;rintro⟨af,e,am,ah,nn2013⟩ et ⟨a6,x,ac,h⟩;obtain⟨bn,b9,rfl,h,bq⟩:=Aw h;refine AR ?_;refine Ar h ?_ ?_<;>intro cy h
    ·refine Af ?_;refine AA ((List Li)×Value×LR) (λ⟨a3,ay,ar⟩=>[(0,av),(3,ay),(4,No t),(5,ak),(6,No e)]) (λ⟨a3,ay,ar⟩ wr=>Cd w [.row ay 132 4 (a3).length ar] wr λOz=>As Xp (gz H w wr Oz) ak p/\Ao Xp (gz H w wr Oz) a3 ar/\(El e) a3=TI b9) ?_ ?_
     ·refine AR ?_;refine Ag h λbr h=>A1 x e.toNat (BP br) (An br) ?_;rintro fb _ ⟨_,_,rfl,rfl,⟨_,_,rfl,rfl,⟨_,_,rfl,rfl,rfl⟩⟩⟩ cz;refine AJ (AU cz (Ae a6))<|Ah h λfc c0 h=>Al a6 (RP (a1:=((p.getD e.toNat Qq7).1,(p.getD e.toNat Qq7).2.1,(p.getD e.toNat Qq7).2.2.1,(p.getD e.toNat Qq7).2.2.2)) _ _ (Le.refl _) (a6.Jv hH (i:=0) Z ac) c0) λfd eu bg a4=>Ap<|AH h ?_ ?_<;>intro c1 h
      ·refine Af ?_;have x:=x.mono (Aa a4);have ac:=ac.mono (Aa a4);refine Am (_,_,_) ⟨bg,x,ac,h⟩
      refine Af ?_;refine Ag h λbs h=>?_;have x:=x.mono (Aa a4);refine A1 x e.toNat (BP bs) (An bs) ?_;rintro fe _ ⟨_,_,rfl,rfl,⟨_,_,rfl,rfl,⟨_,_,rfl,rfl,rfl⟩⟩⟩ c2;refine AJ (AU c2 (Ae bg))<|Bi [((p.getD e.toNat Qq7).1,(p.getD e.toNat Qq7).2.1,(p.getD e.toNat Qq7).2.2.1,(p.getD e.toNat Qq7).2.2.2)] (r:=Xp) (λ_=>Acj _ _ _ _ _) bg (.c4 ⟨_,_,Z,Z,⟨_,_,Z,Z,⟨_,_,Z,Z,Z⟩⟩⟩ .nil) λff fg ev c3 bk c5=>Ag h λc6 h=>?_;have ac:=ac.mono (Aa (a4.trans bk));refine Bf (r:=Xp) 0 af [((p.getD e.toNat Qq7).1,(p.getD e.toNat Qq7).2.1,(p.getD e.toNat Qq7).2.2.1,(p.getD e.toNat Qq7).2.2.2)] Z IL c3 Z ac c5 c6 λa7 fh c7 bt cd c8=>Af ?_;refine AJ (O1 0 Z bt Z)<|Ag h λew h=>Af ?_;refine A4 ?_;obtain⟨ap,h⟩:=Ax h
      have x:=x.mono (Aa (bk.trans cd));refine AF ((List Li)×Int×LR×Nat) (λ⟨b,a,ad,n⟩=>[(0,av),(3,a7),(4,No t),(5,ak),(6,No e),(7,No a)]) (λ⟨b,a,ad,n⟩ wr=>Cd w [.row a7 132 4 (b).length ad] wr λOz=>As Xp (gz H w wr Oz) ak p/\Ao Xp (gz H w wr Oz) b ad/\D6 (DC e) n (b,a)=TI b9) (λ⟨b,a,ad,n⟩=>n) ((af++[((p.getD e.toNat Qq7).1,(p.getD e.toNat Qq7).2.1,(p.getD e.toNat Qq7).2.2.1,(p.getD e.toNat Qq7).2.2.2)]),(((af++[((p.getD e.toNat Qq7).1,(p.getD e.toNat Qq7).2.1,(p.getD e.toNat Qq7).2.2.1,(p.getD e.toNat Qq7).2.2.2)]).length:Int) - 1),c7,ap) Z ⟨bt,x,c8,h⟩ ?_;rintro⟨b,a,ad,nn2342⟩ ex ⟨bu,f,g,h⟩;obtain⟨ap,fi,rfl,h,ai⟩:=Aw h;refine PW<|BF (Zt 0 14 (.tail 14)) mixed SF (λen bv=>?_)
      have au:=bu.call bv;have y:=A3 bu bv;refine Br 3 Z<|FX 43 Z (λu=>?_) (λu=>?_)
      ·have h:=JP (Z4 u) h
       iterate 2 refine Cr Z (Az Z) Z Z Z u Z ?_
       refine Ag h λbw h=>?_;have g:=g.mono (Aa y);refine GP Z Z Z Z u Z Z IL (au.Jv hH (i:=0) Z g) a.toNat (BP bw) (An bw) Z ?_;rintro fj _ ⟨_,_,rfl,rfl,⟨_,_,rfl,rfl,⟨_,_,rfl,rfl,rfl⟩⟩⟩ c9;refine Cr Z (AU c9 (Le.refl _)) Z Z Z u Z ?_
       iterate 2 refine Cr Z (Az Z) Z Z Z u Z ?_
       refine Ag h λda h=>Cr Z (Gq da) Z Z Z u Z<|Ag h λbx h=>GP Z Z Z Z u Z Z IL (au.Jv hH (i:=0) Z g) ((a - 1).toNat) (BP bx) (An bx) Z ?_;rintro fk _ ⟨_,_,rfl,rfl,⟨_,_,rfl,rfl,⟨_,_,rfl,rfl,rfl⟩⟩⟩ db;refine Cr Z (AU db (Le.refl _)) Z Z Z u Z<|Ah h λfl dc h=>?_;have ce:=(λ(ca:World) (ey:Ext en ca)=>Qky ca _ (Le.refl _) dc);refine MC Z Z Z Z u Z Z ce<|Bh Z (CA u Z) Z<|AT (λfm bz=>?_);have bh:=au.call bz;have aa:=A3 au bz;refine Ap<|AH h ?_ ?_<;>intro dd h
       ·refine AR ?_;refine Ik (Ew (VF (Pj (Ew (Ew (KZ (Pj (Ew (Ew (KZ (Pj (Ew (KZ MF))))))))))))) (λz0 z=>Le (gz H w z0 [.row a7 132 4 (b).length ad]) (hp z)) mixed Z (λab fn b0=>?_);have d:=bh.call b0;have ae:=A3 bh b0;have c:=d.rG H;refine MG (c.trans (Ae d)) λkI2362=>Au 0 ab kI2362 Z (λ_ _=>Az Z) Z<|Au 1 ab kI2362 Z (λ_ _=>Az Z) Z<|Au 2 ab kI2362 Z (λ_ _=>Az Z) Z<|Au 3 ab kI2362 Z (λ_ _=>Az Z) Z<|Ag h λde h=>Au 4 ab kI2362 Z (λ_ _=>Gq de) Z<|Au 5 ab kI2362 Z (λ_ _=>Az Z) Z<|Au 6 ab kI2362 Z (λ_ _=>Az Z) Z<|Ag h λdf h=>Au 7 ab kI2362 Z (λ_ _=>Gq df) Z<|Au 10 ab kI2362 Z (λ_ _=>Az Z) Z<|Au 11 ab kI2362 Z (λ_ _=>Az Z) Z<|Pe 8 12 Z SF Z ?_ ?_
        ·refine Ag h λan h=>?_;have g:=g.mono (Aa (aa.trans ae));refine A1 (d.Jv hH (i:=0) Z (g.mono c)) ((a - 1).toNat) (BP an) (An an) ?_;rintro fo _ ⟨_,_,rfl,rfl,⟨_,_,rfl,rfl,⟨_,_,rfl,rfl,rfl⟩⟩⟩ bi;refine AS (c.trans (Ae d)) λkI2367=>Pe 9 12 Z SF Z ?_ ?_
         ·refine AJ (AU bi (Le.refl _))<|AS (c.trans (Ae d)) λkI2368=>Jr 12 Z<|Ag h λaj h=>A1 (d.Jv hH (i:=0) Z (g.mono c)) a.toNat (BP aj) (An aj) ?_;rintro fp _ ⟨_,_,rfl,rfl,⟨_,_,rfl,rfl,⟨_,_,rfl,rfl,rfl⟩⟩⟩ dg;refine AS (c.trans (Ae d)) λkI2371=>Jr 13 Z<|AJ (AU dg (Le.refl _))<|AS (c.trans (Ae d)) λkI2372=>Jr 14 Z<|Ag h λk h=>CZ 0 Z IL BN.e d Z a.toNat (BP k) (An k) λfq dh=>AS (c.trans (Ae d)) λkI2375=>Jr 15 Z<|Gh 0 a.toNat (((b.getD ((a - 1).toNat) Qq7).1,(b.getD ((a - 1).toNat) Qq7).2.1,(b.getD ((a - 1).toNat) Qq7).2.2.1,(b.getD ((a - 1).toNat) Qq7).2.2.2)) hH d Z (g.mono c) dh (An k) ⟨_,_,Z,Z,⟨_,_,Z,Z,⟨_,_,Z,Z,Z⟩⟩⟩ ?_;intro fr ez a8 cf di
          have c:=c.trans (Aa cf);refine AS (c.trans (Ae a8)) λkI2377=>Jr 16 Z<|Ag h λo h=>CZ 0 Z IL BN.e a8 Z ((a - 1).toNat) (BP o) (An o) λfs dj=>AS (c.trans (Ae a8)) λkI2380=>Jr 17 Z<|Gh 0 ((a - 1).toNat) (((b.getD a.toNat Qq7).1,(b.getD a.toNat Qq7).2.1,(b.getD a.toNat Qq7).2.2.1,(b.getD a.toNat Qq7).2.2.2)) hH a8 Z di dj (An o) ⟨_,_,Z,Z,⟨_,_,Z,Z,⟨_,_,Z,Z,Z⟩⟩⟩ λft dk dl cg dm=>Kq<|FF<|Ag h λb1 h=>Af ?_;have h:=AX.again h ai;have f:=f.mono (Aa (y.trans (aa.trans ae)));have c:=c.trans (Aa cg)
          refine Ak (_,_,_,_) Z ⟨dl,(f.mono c),dm,h⟩
         refine Ag h λaj h=>Ag h λk h=>Ag h λo h=>Ag h λb1 h=>A1 (d.Jv hH (i:=0) Z (g.mono c)) a.toNat (BP aj) (An aj) ?_;rintro fu _ ⟨_,_,rfl,rfl,⟨_,_,rfl,rfl,⟨_,_,rfl,rfl,rfl⟩⟩⟩ b2;refine AS (c.trans (Ae d)) λkI2384=>Pe 9 13 Z SF Z ?_ ?_
         ·refine AJ (AU bi (Le.refl _))<|AS (c.trans (Ae d)) λkI2385=>Jr 13 Z<|AJ (AU b2 (Le.refl _))<|AS (c.trans (Ae d)) λkI2386=>Jr 14 Z<|CZ 0 Z IL BN.e d Z a.toNat (BP k) (An k) λfv dn=>AS (c.trans (Ae d)) λkI2388=>Jr 15 Z<|Gh 0 a.toNat (((b.getD ((a - 1).toNat) Qq7).1,(b.getD ((a - 1).toNat) Qq7).2.1,(b.getD ((a - 1).toNat) Qq7).2.2.1,(b.getD ((a - 1).toNat) Qq7).2.2.2)) hH d Z (g.mono c) dn (An k) ⟨_,_,Z,Z,⟨_,_,Z,Z,⟨_,_,Z,Z,Z⟩⟩⟩ ?_;intro fw e0 a9 ch dp;have c:=c.trans (Aa ch);refine AS (c.trans (Ae a9)) λkI2390=>Jr 16 Z<|CZ 0 Z IL BN.e a9 Z ((a - 1).toNat) (BP o) (An o) λfx dq=>AS (c.trans (Ae a9)) λkI2392=>Jr 17 Z ?_
          refine Gh 0 ((a - 1).toNat) (((b.getD a.toNat Qq7).1,(b.getD a.toNat Qq7).2.1,(b.getD a.toNat Qq7).2.2.1,(b.getD a.toNat Qq7).2.2.2)) hH a9 Z dp dq (An o) ⟨_,_,Z,Z,⟨_,_,Z,Z,⟨_,_,Z,Z,Z⟩⟩⟩ λfy dr ds ci dt=>Kq<|FF<|Af ?_;have h:=AX.again h ai;have f:=f.mono (Aa (y.trans (aa.trans ae)));have c:=c.trans (Aa ci);refine Ak (_,_,_,_) Z ⟨ds,(f.mono c),dt,h⟩
         refine AJ (AU b2 (Le.refl _))<|AS (c.trans (Ae d)) λkI2394=>Jr 9 Z<|AJ (AU bi (Le.refl _))<|AS (c.trans (Ae d)) λkI2395=>Jr 14 Z<|CZ 0 Z IL BN.e d Z a.toNat (BP k) (An k) λfz du=>AS (c.trans (Ae d)) λkI2397=>Jr 15 Z<|Gh 0 a.toNat (((b.getD ((a - 1).toNat) Qq7).1,(b.getD ((a - 1).toNat) Qq7).2.1,(b.getD ((a - 1).toNat) Qq7).2.2.1,(b.getD ((a - 1).toNat) Qq7).2.2.2)) hH d Z (g.mono c) du (An k) ⟨_,_,Z,Z,⟨_,_,Z,Z,⟨_,_,Z,Z,Z⟩⟩⟩ ?_;intro f0 e1 ba cj dv;have c:=c.trans (Aa cj);refine AS (c.trans (Ae ba)) λkI2399=>Jr 16 Z<|CZ 0 Z IL BN.e ba Z ((a - 1).toNat) (BP o) (An o) λf1 dw=>AS (c.trans (Ae ba)) λkI2401=>Jr 17 Z ?_
         refine Gh 0 ((a - 1).toNat) (((b.getD a.toNat Qq7).1,(b.getD a.toNat Qq7).2.1,(b.getD a.toNat Qq7).2.2.1,(b.getD a.toNat Qq7).2.2.2)) hH ba Z dv dw (An o) ⟨_,_,Z,Z,⟨_,_,Z,Z,⟨_,_,Z,Z,Z⟩⟩⟩ λf2 dx dy ck dz=>Kq<|FF<|Af ?_;have h:=AX.again h ai;have f:=f.mono (Aa (y.trans (aa.trans ae)));have c:=c.trans (Aa ck);refine Ak (_,_,_,_) Z ⟨dy,(f.mono c),dz,h⟩
        refine Ag h λan h=>Ag h λaj h=>Ag h λk h=>Ag h λo h=>Ag h λb1 h=>?_;have g:=g.mono (Aa (aa.trans ae));refine A1 (d.Jv hH (i:=0) Z (g.mono c)) a.toNat (BP aj) (An aj) ?_;rintro f3 _ ⟨_,_,rfl,rfl,⟨_,_,rfl,rfl,⟨_,_,rfl,rfl,rfl⟩⟩⟩ bj;refine AS (c.trans (Ae d)) λkI2404=>Pe 8 13 Z SF Z ?_ ?_
        ·refine A1 (d.Jv hH (i:=0) Z (g.mono c)) ((a - 1).toNat) (BP an) (An an) ?_;rintro f4 _ ⟨_,_,rfl,rfl,⟨_,_,rfl,rfl,⟨_,_,rfl,rfl,rfl⟩⟩⟩ b3;refine AS (c.trans (Ae d)) λkI2406=>Pe 9 13 Z SF Z ?_ ?_
         ·refine AJ (AU b3 (Le.refl _))<|AS (c.trans (Ae d)) λkI2407=>Jr 13 Z<|AJ (AU bj (Le.refl _))<|AS (c.trans (Ae d)) λkI2408=>Jr 14 Z<|CZ 0 Z IL BN.e d Z a.toNat (BP k) (An k) λf5 d0=>AS (c.trans (Ae d)) λkI2410=>Jr 15 Z<|Gh 0 a.toNat (((b.getD ((a - 1).toNat) Qq7).1,(b.getD ((a - 1).toNat) Qq7).2.1,(b.getD ((a - 1).toNat) Qq7).2.2.1,(b.getD ((a - 1).toNat) Qq7).2.2.2)) hH d Z (g.mono c) d0 (An k) ⟨_,_,Z,Z,⟨_,_,Z,Z,⟨_,_,Z,Z,Z⟩⟩⟩ ?_;intro f6 e2 bb cl d1;have c:=c.trans (Aa cl);refine AS (c.trans (Ae bb)) λkI2412=>Jr 16 Z<|CZ 0 Z IL BN.e bb Z ((a - 1).toNat) (BP o) (An o) λf7 d2=>AS (c.trans (Ae bb)) λkI2414=>Jr 17 Z ?_
          refine Gh 0 ((a - 1).toNat) (((b.getD a.toNat Qq7).1,(b.getD a.toNat Qq7).2.1,(b.getD a.toNat Qq7).2.2.1,(b.getD a.toNat Qq7).2.2.2)) hH bb Z d1 d2 (An o) ⟨_,_,Z,Z,⟨_,_,Z,Z,⟨_,_,Z,Z,Z⟩⟩⟩ λf8 d3 d4 cm d5=>Kq<|FF<|Af ?_;have h:=AX.again h ai;have f:=f.mono (Aa (y.trans (aa.trans ae)));have c:=c.trans (Aa cm);refine Ak (_,_,_,_) Z ⟨d4,(f.mono c),d5,h⟩
         refine AJ (AU bj (Le.refl _))<|AS (c.trans (Ae d)) λkI2416=>Jr 9 Z<|AJ (AU b3 (Le.refl _))<|AS (c.trans (Ae d)) λkI2417=>Jr 14 Z<|CZ 0 Z IL BN.e d Z a.toNat (BP k) (An k) λf9 d6=>AS (c.trans (Ae d)) λkI2419=>Jr 15 Z<|Gh 0 a.toNat (((b.getD ((a - 1).toNat) Qq7).1,(b.getD ((a - 1).toNat) Qq7).2.1,(b.getD ((a - 1).toNat) Qq7).2.2.1,(b.getD ((a - 1).toNat) Qq7).2.2.2)) hH d Z (g.mono c) d6 (An k) ⟨_,_,Z,Z,⟨_,_,Z,Z,⟨_,_,Z,Z,Z⟩⟩⟩ ?_;intro ga e3 bc cn d7;have c:=c.trans (Aa cn);refine AS (c.trans (Ae bc)) λkI2421=>Jr 16 Z<|CZ 0 Z IL BN.e bc Z ((a - 1).toNat) (BP o) (An o) λgb d8=>AS (c.trans (Ae bc)) λkI2423=>Jr 17 Z ?_
         refine Gh 0 ((a - 1).toNat) (((b.getD a.toNat Qq7).1,(b.getD a.toNat Qq7).2.1,(b.getD a.toNat Qq7).2.2.1,(b.getD a.toNat Qq7).2.2.2)) hH bc Z d7 d8 (An o) ⟨_,_,Z,Z,⟨_,_,Z,Z,⟨_,_,Z,Z,Z⟩⟩⟩ λgc d9 ea co eb=>Kq<|FF<|Af ?_;have h:=AX.again h ai;have f:=f.mono (Aa (y.trans (aa.trans ae)));have c:=c.trans (Aa co);refine Ak (_,_,_,_) Z ⟨ea,(f.mono c),eb,h⟩
        refine AJ (AU bj (Le.refl _))<|AS (c.trans (Ae d)) λkI2425=>Jr 8 Z<|A1 (d.Jv hH (i:=0) Z (g.mono c)) ((a - 1).toNat) (BP an) (An an) ?_;rintro gd _ ⟨_,_,rfl,rfl,⟨_,_,rfl,rfl,⟨_,_,rfl,rfl,rfl⟩⟩⟩ ec;refine AS (c.trans (Ae d)) λkI2427=>Jr 9 Z<|AJ (AU ec (Le.refl _))<|AS (c.trans (Ae d)) λkI2428=>Jr 14 Z<|CZ 0 Z IL BN.e d Z a.toNat (BP k) (An k) λge ed=>AS (c.trans (Ae d)) λkI2430=>Jr 15 Z<|Gh 0 a.toNat (((b.getD ((a - 1).toNat) Qq7).1,(b.getD ((a - 1).toNat) Qq7).2.1,(b.getD ((a - 1).toNat) Qq7).2.2.1,(b.getD ((a - 1).toNat) Qq7).2.2.2)) hH d Z (g.mono c) ed (An k) ⟨_,_,Z,Z,⟨_,_,Z,Z,⟨_,_,Z,Z,Z⟩⟩⟩ ?_;intro gf e4 bd cp ee;have c:=c.trans (Aa cp)
        refine AS (c.trans (Ae bd)) λkI2432=>Jr 16 Z<|CZ 0 Z IL BN.e bd Z ((a - 1).toNat) (BP o) (An o) λgg ef=>AS (c.trans (Ae bd)) λkI2434=>Jr 17 Z<|Gh 0 ((a - 1).toNat) (((b.getD a.toNat Qq7).1,(b.getD a.toNat Qq7).2.1,(b.getD a.toNat Qq7).2.2.1,(b.getD a.toNat Qq7).2.2.2)) hH bd Z ee ef (An o) ⟨_,_,Z,Z,⟨_,_,Z,Z,⟨_,_,Z,Z,Z⟩⟩⟩ λgh eg eh cq ei=>Kq<|FF<|Af ?_;have h:=AX.again h ai;have f:=f.mono (Aa (y.trans (aa.trans ae)));have c:=c.trans (Aa cq)
        refine Ak (_,_,_,_) Z ⟨eh,(f.mono c),ei,h⟩
       have h:=AX.out h ai;refine Af ?_;have f:=f.mono (Aa (y.trans aa));have g:=g.mono (Aa aa);refine Am (_,_,_) ⟨bh,f,g,h⟩
      have h:=JQ (of_decide_eq_false u) h
      iterate 10 refine Mm Z Z Z Z u Z ?_
      refine Bh Z (B4 u Z) Z<|AT (λgi b4=>?_);have ej:=au.call b4;have bl:=A3 au b4;refine Ap<|BO ?_;have h:=AX.out h ai;refine Af ?_;have f:=f.mono (Aa (y.trans bl));have g:=g.mono (Aa (y.trans bl));refine Am (_,_,_) ⟨ej,f,g,h⟩
     rintro⟨a3,ay,ar⟩ e5 ⟨ek,b7,cr,h⟩;refine Ag h λe6 h=>Af ?_;have h:=AX.again h bq;refine Ak (_,_,_,_,_) Z ⟨ek,b7,cr,h⟩
    have h:=AX.out h bq;refine Af ?_;refine Am (_,_,_) ⟨a6,ac,h⟩
   rintro⟨a2,ax,aq⟩ e7 ⟨el,cs,h⟩;refine Ag h λe8 h=>Af ?_;have h:=AX.again h bo;refine Ak (_,_,_,_,_) Z ⟨el,cs,h⟩
  have h:=AX.out h bo;refine Af ?_;refine Am (_,_,_) ⟨aw,az,h⟩
 rintro⟨bf,be,a5⟩ gj ⟨cb,em,h⟩;refine Af ?_
 cases h
 refine AD Z ⟨cb.ext,_,Z,(cb.Ev hH (i:=0) Z em)⟩
def OR(b:Wl)(a:Int):Option Wl:=
 Ay (Go.E.Dx 1 (b.length+([(Go.L.u8 a)]).length)) (TI ((b++[(Go.L.u8 a)])))
def Gm:Wl×Int->Option ((Wl×Int)⊕(Wl)):=λ⟨b,a⟩=>
 if 128<=a then Ay (0<=a/\a<2 ^ 64/\0<(128:Int)) (Ay (Go.E.Dx 1 (b.length+([((Go.L.u8 (a % (128:Int)))+(128:UInt8))]).length)) (Ay (0<=a/\a<2 ^ 64/\0<(128:Int)) (TI (Sum.inl ((b++[((Go.L.u8 (a % (128:Int)))+(128:UInt8))]),(a / (128:Int)))))))else Sh Sum.inr (OR b a)
def QjX(s:Wl×Int):Option Wl:=Go.L.run Gm s
def LH(a:Int):Option Wl:=
 QjX (([]:Wl),a)
def F4(a0:Int):Option Wl:=
 if a0<0 then Ay (0<=(IntKind.u64.wrap ((IntKind.u64.wrap a0) * 2))/\(IntKind.u64.wrap ((IntKind.u64.wrap a0) * 2))<2 ^ 64) (LH ((18446744073709551615 ^^^ (IntKind.u64.wrap ((IntKind.u64.wrap a0) * 2)).toNat:Nat):Int))else LH (IntKind.u64.wrap ((IntKind.u64.wrap a0) * 2))
theorem FU{a0:Int}{r:Wl}(h:F4 a0=TI r):
  Pd 60 [No a0] w (λv w'=>∃u0,v=u0/\B2 5 .byte H w w' u0 r):=by
 refine Ai 28 [(0,No a0)] func60 Z λhL=>Af ?_;refine AJ (Er Z)<|AJ (AlH Z Z Z Z)<|BJ 1 Z<|AA Int (λk=>[(3,.int .u64 k)]) (λk wr=>AB w [] wr/\LH k=TI r) ?_ ?_
 ·refine Bx 2 Z<|Ar h ?_ ?_<;>intro au h
  ·refine Af ?_;refine Ag h λab h=>AJ (AlV ab)<|Af ?_;refine Am _ ⟨hL,h⟩
  refine Ca<|Am _ ⟨hL,h⟩
 rintro k a6 ⟨av,h⟩;obtain⟨ac,ax,ad⟩:=B3 .byte H 5 av;refine Af ?_;refine AA (Wl×Int×Value×LR) (λ⟨o,c,p,g⟩=>[(3,.int .u64 c),(4,p)]) (λ⟨o,c,p,g⟩ wr=>Cd w [.row p 5 1 (o).length g] wr λOz=>Ao .byte (gz H w wr Oz) o g/\OR o c=TI r) ?_ ?_
 ·refine A4 ?_;obtain⟨s,h⟩:=Ax h;refine AF (Wl×Int×Value×LR×Nat) (λ⟨e,a,f,d,n⟩=>[(3,.int .u64 a),(4,f)]) (λ⟨e,a,f,d,n⟩ wr=>Cd w [.row f 5 1 (e).length d] wr λOz=>Ao .byte (gz H w wr Oz) e d/\D6 Gm n (e,a)=TI r) (λ⟨e,a,f,d,n⟩=>n) (([]:Wl),k,TO,[],s) Z ⟨ac,ad,h⟩ ?_;rintro⟨e,a,f,d,nn51⟩ a1 ⟨t,j,h⟩;obtain⟨s,a7,rfl,h,u⟩:=Aw h;refine AR ?_;refine Ar h ?_ ?_<;>intro ae h
  ·refine AR ?_;refine Ag h λx h=>AJ (Alg Z Z ⟨x.1,x.2.2⟩)<|AJ (Er (G7 _))<|AJ (ZK 128 Z Z Z)<|Bi [((Go.L.u8 (a % (128:Int)))+(128:UInt8))] (r:=.byte) (λ_=>Ht _ _) t (.c1 Z .nil) λa8 a9 a2 af z ag=>Ag h λah h=>?_;have j:=j.mono (Aa z);refine Bf (r:=.byte) 0 e [((Go.L.u8 (a % (128:Int)))+(128:UInt8))] Z LS af Z j ag ah λaw ba ai aj ay ak=>Af ?_;refine Ag h λal h=>AJ (AlW al)<|Af ?_;have h:=AX.again h u;refine Ak (_,_,_,_,_) Z ⟨aj,ak,h⟩
  have h:=AX.out h u;refine Af ?_;refine Am (_,_,_,_) ⟨t,j,h⟩
 rintro⟨o,c,p,g⟩ a3 ⟨am,q,h⟩;refine FA 2 Z<|AJ (Er (G7 _))<|Bi [(Go.L.u8 c)] (r:=.byte) (λ_=>Ht _ _) am (.c1 Z .nil) λbb bc a4 an aa ao=>Ag h λap h=>?_;have q:=q.mono (Aa aa);refine Bf (r:=.byte) 0 o [(Go.L.u8 c)] Z LS an Z q ao ap λbd be a5 y az aq=>Af ?_
 cases h
 refine AD Z ⟨y.ext,_,Z,(y.Ev hH (i:=0) Z aq)⟩
def OS(a0:Wl):Option Wl:=
 Xd (F4 (a0.length:Int)) (λa=>Ay (a0.length<=9223372036854775807) (Ay (Go.E.Dx 1 (a.length+a0.length)) (TI ((a++a0)))))
theorem Ue{a0 r:Wl}(h:OS a0=TI r):
  Pd 109 [Pg a0] w (λv w'=>∃g,v=g/\B2 5 .byte H w w' g r):=by
 refine Ai 9 [(0,(Pg a0))] func109 Z λhL=>Af ?_;refine AJ (Dn Z)<|Ah h λu j h=>A9 hL (FU _ _ (Ae hL) j) ?_;rintro x w2 ⟨_,rfl,b⟩ k c e;obtain⟨z,c,e,a⟩:=b.take hH hL k;refine AK 1 Z<|Ag h λo h=>YT (H:=H) c o λv3 w3 aa p f q=>Ag h λs h=>?_;have a:=a.mono (Aa f);refine Bf (r:=.byte) 0 u a0 Z LS p Z a q s λv5 w5 ab d y t=>Af ?_
 cases h
 refine AD Z ⟨d.ext,_,Z,(d.Ev hH (i:=0) Z t)⟩
def M9(a:Wl):Option Wl:=
 TI a
def IF(a1:SB):Wl×Int->Option ((Wl×Int)⊕(Wl)):=λ⟨b,a⟩=>
 if a<(a1.length:Int)then Ay (0<=a/\a<(a1.length:Int)) (Xd (F4 (a1.getD a.toNat Qq7)) (λc=>Ay (Go.E.Dx 1 (b.length+c.length)) (Ay (AL (a+1)) (TI (Sum.inl ((b++c),(a+1)))))))else Sh Sum.inr (M9 b)
def Q4(a1:SB)(s:Wl×Int):Option Wl:=Go.L.run (IF a1) s
def Kl(a0:Li)(a1:SB):Option Wl:=
 Xd (OS a0.1) (λa=>Xd (F4 a0.2.1) (λb=>Ay (Go.E.Dx 1 (a.length+b.length)) (Xd (F4 a0.2.2.1) (λd=>Ay (Go.E.Dx 1 ((a++b).length+d.length)) (Xd (OS a0.2.2.2) (λc=>Ay (Go.E.Dx 1 (((a++b)++d).length+c.length)) (Xd (F4 (a1.length:Int)) (λe=>Ay (Go.E.Dx 1 ((((a++b)++d)++c).length+e.length)) ((Q4 a1) (((((a++b)++d)++c)++e),0))))))))))
theorem Am7{a0:Li}{a1:SB}{j:Value}(a5:As (.int .i64) H j a1){r:Wl}(h:Kl a0 a1=TI r):
  Pd 63 [.agg #[Pg a0.1,No a0.2.1,No a0.2.2.1,Pg a0.2.2.2],j] w (λv w'=>∃u0,v=u0/\B2 5 .byte H w w' u0 r):=by
 refine Ai 44 [(0,.agg #[Pg a0.1,No a0.2.1,No a0.2.2.1,Pg a0.2.2.2]),(1,j)] func63 Z λhL=>A5<|B6 (t:=132) Z Z hL λw1 b1 y cg _=>Af ?_;refine Ah h λz bw h=>A9 y (Ue _ _ (Ae y) bw) ?_;rintro ch w3 ⟨_,rfl,ap⟩ bx x a6;obtain⟨cq,x,a6,aa⟩:=ap.take hH y bx;refine Af ?_;refine Ah h λx4 bz h=>A9 x (FU _ _ (Ae x) bz) ?_;rintro ci w5 ⟨_,rfl,aq⟩ b0 b2 a7;have ar:=aq.BB hH x b0;refine Ag h λb3 h=>?_;have aa:=aa.mono (Aa a7);refine Bf (r:=.byte) 0 z x4 Z LS b2 Z aa ar b3 λv6 w6 cr ac cj ad=>Af ?_;refine Ah h λx8 b4 h=>A9 ac (FU _ _ (Ae ac) b4) ?_;rintro ck w9 ⟨_,rfl,av⟩ b5 b6 a8;have aw:=av.BB hH ac b5;refine Ag h λa9 h=>?_;have ad:=ad.mono (Aa a8);refine Bf (r:=.byte) 0 (z++x4) x8 Z LS b6 Z ad aw a9 λcs ct cl p b9 q=>Af ?_;refine Ah h λae ba h=>A9 p (Ue _ _ (Ae p) ba) ?_
 rintro ca cu ⟨_,rfl,af⟩ bb bc ax;have ag:=af.BB hH p bb;refine Ag h λbd h=>?_;have q:=q.mono (Aa ax);refine Bf (r:=.byte) 0 (((z++x4)++x8)) ae Z LS bc Z q ag bd λcv cw cm s cb u=>Af ?_;refine Ah h λa3 be h=>A9 s (FU _ _ (Ae s) be) ?_;rintro cc cx ⟨_,rfl,ah⟩ bf bg ay;have ai:=ah.BB hH s bf;refine Ag h λbh h=>?_;have u:=u.mono (Aa ay);refine Bf (r:=.byte) 0 ((((z++x4)++x8)++ae)) a3 Z LS bg Z u ai bh λb7 cy bi bj cd bk=>BJ 1 Z<|AA (Wl×Value×LR) (λ⟨o,k,e⟩=>[(5,k)]) (λ⟨o,k,e⟩ wr=>Cd w [.row k 5 1 (o).length e,.box b1 [Pg a0.1,No a0.2.1,No a0.2.2.1,Pg a0.2.2.2] 132] wr λOz=>Ao .byte (gz H w wr Oz) o e/\M9 o=TI r) ?_ ?_
 ·refine Bx 1 Z<|A4 ?_;obtain⟨aj,h⟩:=Ax h;refine AF (Wl×Int×Value×LR×Nat) (λ⟨c,a,d,b,n⟩=>[(1,j),(5,d),(6,No a)]) (λ⟨c,a,d,b,n⟩ wr=>Cd w [.row d 5 1 (c).length b,.box b1 [Pg a0.1,No a0.2.1,No a0.2.2.1,Pg a0.2.2.2] 132] wr λOz=>Ao .byte (gz H w wr Oz) c b/\D6 (IF a1) n (c,a)=TI r) (λ⟨c,a,d,b,n⟩=>n) (((((z++x4)++x8)++ae)++a3),0,b7,bi,aj) Z ⟨bj,bk,h⟩ ?_;rintro⟨c,a,d,b,nn61⟩ cn ⟨g,f,h⟩;obtain⟨aj,cz,rfl,h,ak⟩:=Aw h;refine AR ?_;refine Ar h ?_ ?_<;>intro bl h
  ·refine AR ?_;refine Ag h λal h=>A1 a5 a.toNat (BP al) (An al) ?_;rintro c0 _ rfl bm;refine sH bm (hH.trans g.arg)<|Ah h λa4 bn h=>A9 g (FU _ _ (Ae g) bn) ?_;rintro ce c1 ⟨_,rfl,am⟩ bo bp az;have an:=am.BB hH g bo;refine Ag h λbq h=>?_;have f:=f.mono (Aa az);refine Bf (r:=.byte) 0 c a4 Z LS bp Z f an bq λb8 c2 br bs cf bt=>Ag h λco h=>Af ?_;have h:=AX.again h ak;refine Ak (_,_,_,_,_) Z ⟨bs,bt,h⟩
  have h:=AX.out h ak;refine Af ?_;refine Am (_,_,_) ⟨g,f,h⟩
 rintro⟨o,k,e⟩ cp ⟨ao,a2,h⟩;refine Af ?_
 cases h
 refine AD Z ⟨ao.ext,_,Z,(ao.Ev hH (i:=0) Z a2)⟩
def K9(a:Int)(b:Wl):Option ((Wl×Int)⊕(Wl)):=
 Ay (AL (a+1)) (TI (Sum.inl (b,(a+1))))
def KA(b:Wl)(a:Int)(c:(List Li))(e:SB):Option ((Wl×Int)⊕(Wl)):=
 Ay (0<=a/\a<(c.length:Int)) (Xd (Kl ((c.getD a.toNat Qq7).1,(c.getD a.toNat Qq7).2.1,(c.getD a.toNat Qq7).2.2.1,(c.getD a.toNat Qq7).2.2.2) e) (λd=>Ay (Go.E.Dx 1 (b.length+d.length)) ((K9 a) (b++d))))
def Co(a0:List Pv)(e:Wl)(b:Int)(d:(List Li)):SB×Int->Option (KP⊕((Wl×Int)⊕(Wl))):=λ⟨c,a⟩=>
 if a<(a0.length:Int)then Ay (0<=a/\a<(a0.length:Int)) (Ay (0<=b/\b<(d.length:Int)) (Xd (Hp (a0.getD a.toNat Qq7) ([]:Wl)) (λf=>Xd (J9 f ((d.getD b.toNat Qq7).1,(d.getD b.toNat Qq7).2.1,(d.getD b.toNat Qq7).2.2.1,(d.getD b.toNat Qq7).2.2.2)) (λg=>if g then Ay (Go.E.Dx 8 (c.length+([a]).length)) (Ay (AL (a+1)) (TI (Sum.inl ((c++[a]),(a+1)))))else Ay (AL (a+1)) (TI (Sum.inl (c,(a+1))))))))else Sh Sum.inr ((KA e b d) c)
def OT(a0:List Pv)(b:Wl)(a:Int)(c:(List Li))(s:KP):Option ((Wl×Int)⊕(Wl)):=Go.L.run (Co a0 b a c) s
def KB(a:Wl):Option Wl:=
 TI a
def GK(a0:List Pv)(c:(List Li)):Wl×Int->Option ((Wl×Int)⊕(Wl)):=λ⟨b,a⟩=>
 if a<(c.length:Int)then(OT a0 b a c) (([]:SB),0)else Sh Sum.inr (KB b)
def OU(a0:List Pv)(a:(List Li))(s:Wl×Int):Option Wl:=Go.L.run (GK a0 a) s
def Kz(a0:List Pv):Option Wl:=
 Xd (LG a0) (λa=>Xd (F4 (a0.length:Int)) (λb=>Xd (F4 (a.length:Int)) (λc=>Ay (Go.E.Dx 1 (b.length+c.length)) ((OU a0 a) ((b++c),0)))))
theorem QkE{a0:List Pv}{x:Value}(bl:As .tree H x a0){r:Wl}(h:Kz a0=TI r):
  Pd 28 [x] w (λv w'=>∃u0,v=u0/\B2 5 .byte H w w' u0 r):=by
 refine Ai 52 [(0,x)] func28 Z λhL=>Af ?_;refine Ah h λx1 c0 h=>A9 hL (QkJ _ _ (Ae hL) (bl.mono  Ad) c0) ?_;rintro s w2 ⟨_,rfl,b2⟩ c2 bm dq;have y:=b2.BB hH hL c2;refine Af ?_;refine Ah h λx3 c4 h=>A9 bm (FU _ _ (Ae bm) c4) ?_;rintro dr w4 ⟨_,rfl,b3⟩ c5 a5 bn;obtain⟨d7,a5,bn,bo⟩:=b3.take hH bm c5;have y:=y.mono (Aa bn);refine Af ?_;refine Ah h λx5 c7 h=>A9 a5 (FU _ _ (Ae a5) c7) ?_;rintro ds w6 ⟨_,rfl,b4⟩ c8 c9 bp;have b5:=b4.BB hH a5 c8;refine Ag h λda h=>?_;have bo:=bo.mono (Aa bp);refine Bf (r:=.byte) 0 x3 x5 Z LS c9 Z bo b5 da λv7 w7 db dc cu dd=>BJ 1 Z<|AA (Wl×Value×LR) (λ⟨al,ag,z⟩=>[(4,ag)]) (λ⟨al,ag,z⟩ wr=>Cd w [.row ag 5 1 (al).length z] wr λOz=>Ao .byte (gz H w wr Oz) al z/\KB al=TI r) ?_ ?_
 ·refine Bx 1 Z<|A4 ?_;obtain⟨a3,h⟩:=Ax h;have y:=y.mono (Aa (bp.trans cu));refine AF (Wl×Int×Value×LR×Nat) (λ⟨e,a,f,d,n⟩=>[(0,x),(3,s),(4,f),(5,No a)]) (λ⟨e,a,f,d,n⟩ wr=>Cd w [.row f 5 1 (e).length d] wr λOz=>As Xp (gz H w wr Oz) s x1/\Ao .byte (gz H w wr Oz) e d/\D6 (GK a0 x1) n (e,a)=TI r) (λ⟨e,a,f,d,n⟩=>n) ((x3++x5),0,v7,db,a3) Z ⟨dc,y,dd,h⟩ ?_;rintro⟨e,a,f,d,nn236⟩ dg ⟨a6,ae,g,h⟩;obtain⟨a3,a4,rfl,h,a7⟩:=Aw h;refine AR ?_;refine Ar h ?_ ?_<;>intro b6 h
  ·refine Af ?_;refine AA (Wl×Value×LR) (λ⟨af,aa,t⟩=>[(0,x),(3,s),(4,aa),(5,No a)]) (λ⟨af,aa,t⟩ wr=>Cd w [.row aa 5 1 (af).length t] wr λOz=>As Xp (gz H w wr Oz) s x1/\Ao .byte (gz H w wr Oz) af t/\(K9 a) af=TI a4) ?_ ?_
   ·obtain⟨a8,am,b7⟩:=B3 (.int .i64) H 3 a6;refine A4<|Af ?_;refine AA (SB×Value×LR) (λ⟨an,ah,ab⟩=>[(0,x),(3,s),(4,f),(5,No a),(6,ah)]) (λ⟨an,ah,ab⟩ wr=>Cd w [.row ah 3 1 (an).length ab,.row f 5 1 (e).length d] wr λOz=>As Xp (gz H w wr Oz) s x1/\Ao (.int .i64) (gz H w wr Oz) an ab/\Ao .byte (gz H w wr Oz) e d/\(KA e a x1) an=TI a4) ?_ ?_
    ·have aq:=a8.rG H;refine Bx 1 Z<|A4 ?_;obtain⟨ar,h⟩:=Ax h;have ae:=ae.mono (Aa am);have g:=g.mono (Aa am);refine AF (SB×Int×Value×LR×Nat) (λ⟨o,c,p,j,n⟩=>[(0,x),(3,s),(4,f),(5,No a),(6,p),(7,No c)]) (λ⟨o,c,p,j,n⟩ wr=>Cd w [.row p 3 1 (o).length j,.row f 5 1 (e).length d] wr λOz=>As Xp (gz H w wr Oz) s x1/\Ao (.int .i64) (gz H w wr Oz) o j/\Ao .byte (gz H w wr Oz) e d/\D6 (Co a0 e a x1) n (o,c)=TI a4) (λ⟨o,c,p,j,n⟩=>n) (([]:SB),0,TO,[],ar) Z ⟨a8,(ae.mono aq),(b7.mono aq),(g.mono aq),h⟩ ?_;rintro⟨o,c,p,j,nn400⟩ dh ⟨ai,u,ao,he400_r4,h⟩;obtain⟨ar,du,rfl,h,au⟩:=Aw h;have b:=ai.rG H;refine AR ?_;refine Ar h ?_ ?_<;>intro b8 h
     ·refine AR ?_;refine BF (Zt 0 4 (Zt 5 4 (.h 4 (.q 9 (.tail 10))))) mixed SF (λdv a9=>?_);have ac:=ai.call a9;have bq:=A3 ai a9;refine Br 2 Z<|Ag h λba h=>Cj Z Z Z Vz bl c.toNat (BP ba) (An ba) Z ?_;rintro dw _ e407t0 b9;obtain⟨_,_,rfl,rfl,⟨_,_,rfl,rfl,⟨_,_,rfl,⟨e407v2,rfl,e407h2⟩,⟨_,_,rfl,⟨e407v3,rfl,e407h3⟩,⟨e407v4,rfl,e407h4⟩⟩⟩⟩⟩:=Go.E.Rp.F6 e407t0;refine Bh Z (AU b9 (hH.trans ac.arg)) Z<|Br 2 Z<|Ag h λbb h=>?_;have b:=b.trans (Aa bq);refine Cj Z Z Z IL (u.mono b) a.toNat (BP bb) (An bb) Z ?_;rintro dx _ ⟨_,_,rfl,rfl,⟨_,_,rfl,rfl,⟨_,_,rfl,rfl,rfl⟩⟩⟩ ca;refine Bh Z (AU ca (Ae ac)) Z<|Ah h λdy cb h=>BK Z Z Z (λcv aj=>Jn _ _ (Ae (ac.call aj)) (e407h2.mono  Ad) (e407h3.mono  Ad) (e407h4.mono  Ad) cb) ?_;rintro cv de cw aj av ⟨_,rfl,bg⟩;have aw:=ac.call aj;have az:=A3 ac aj;have ax:=aw.call av;have a1:=A3 aw av;have bh:=bg.BB hH aw av
      refine Ah h λdz cc h=>?_;have br:=(λ(bs:World) (cd:Ext cw bs)=>RP bs _ (Le.refl _) ((bh.mono (Ae ax)).mono cd.le) cc);refine DY Z Z Z br<|AT (λd0 bc=>?_);have bd:=ax.call bc;have a2:=A3 ax bc;refine Ap<|AH h ?_ ?_<;>intro ce h
      ·refine Af ?_;refine Bi [c] (r:=(.int .i64)) (λ_=>Fy _ _) bd (.c1 Z .nil) λd1 d2 di cf bt cg=>Ag h λch h=>?_;have b:=b.trans (Aa (az.trans (a1.trans (a2.trans bt))));refine Bf (r:=(.int .i64)) 0 o [c] Z VV cf Z (ao.mono b) cg ch λcx d3 ci cj bu ck=>Ag h λdj h=>Af ?_;have h:=AX.again h au;have b:=b.trans (Aa bu);refine Ak (_,_,_,_,_) Z ⟨cj,(u.mono b),ck,(he400_r4.mono b),h⟩
      refine Ag h λdk h=>Af ?_;have h:=AX.again h au;have b:=b.trans (Aa (az.trans (a1.trans a2)));refine Ak (_,_,_,_,_) Z ⟨bd,(u.mono b),(ao.mono b),(he400_r4.mono b),h⟩
     have h:=AX.out h au;refine Af ?_;refine Am (_,_,_) ⟨ai,(u.mono b),(ao.mono b),(he400_r4.mono b),h⟩
    have g:=g.mono (Aa am);rintro⟨an,ah,ab⟩ dl ⟨ad,ap,bv,g,h⟩;have k:=ad.rG H;refine Af ?_;refine Ag h λbe h=>A1 (ap.mono k) a.toNat (BP be) (An be) ?_;rintro d4 _ ⟨_,_,rfl,rfl,⟨_,_,rfl,rfl,⟨_,_,rfl,rfl,rfl⟩⟩⟩ cl;refine AJ (AU cl (Ae ad))<|AK 1 Z<|Ah h λbw cm h=>A9 ad (Am7 (a0:=((x1.getD a.toNat Qq7).1,(x1.getD a.toNat Qq7).2.1,(x1.getD a.toNat Qq7).2.2.1,(x1.getD a.toNat Qq7).2.2.2)) _ _ (Le.refl _) (ad.Jv hH (i:=0) Z (bv.mono k)) cm) ?_;rintro df d5 ⟨_,rfl,bi⟩ cn co bx;have bj:=(bi.UE Um).BB hH ad cn;refine Ag h λcp h=>?_;have k:=k.trans (Aa bx);refine Bf (r:=.byte) 1 e bw Z LS co Z (g.mono k) bj cp λcy d6 cq cr bz ay=>Af ?_;have cs:=cr.dT 0 Z;have k:=k.trans (Aa (bz.trans (fz_dT 0 Z)));have ay:=ay.mono (Aa (fz_dT 0 Z));refine Am (_,_,_) ⟨cs,(ap.mono k),ay,h⟩
   rintro⟨af,aa,t⟩ dm ⟨ct,bk,b0,h⟩;refine Ag h λdn h=>Af ?_;have h:=AX.again h a7;refine Ak (_,_,_,_,_) Z ⟨ct,bk,b0,h⟩
  have h:=AX.out h a7;refine Af ?_;refine Am (_,_,_) ⟨a6,g,h⟩
 rintro⟨al,ag,z⟩ dp ⟨bf,b1,h⟩;refine Af ?_
 cases h
 refine AD Z ⟨bf.ext,_,Z,(bf.Ev hH (i:=0) Z b1)⟩
end
end Go.Proofs.YtgaljodghpgdmaaGreatDoor
end
