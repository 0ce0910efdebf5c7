/- Texts of a claim, merged. -/
import Derived.Test.YtekmbcbgknmhiaaGreatDoorLn4
import Derived.KernelRfl
open _root_.Go.Proofs.Tryz renaming underlying22→Adb,underlying23→Af7,underlying58→AhD,underlying26→Aj3,underlying137→Aj7,underlying62→Aj9,underlying94→AjB,underlying96→AjQ,underlying98→AjR,underlying52→AjU,underlying66→AjV,underlying50→AjW,underlying43→AjX,underlying28→Ajx
open Option renaming bind->Qq4,bind_some->Qq5,map->Qq7
open List renaming getD_eq_getElem?_getD->Qzq,getElem?_eq_getElem->Qzw,replicate->Qzz,length_map->Qzk,length_cons->Qzj,length_append->Qzu,drop_eq_nil_of_le->Qz1,length_nil->Qze,length_take->QzK,length_drop->QzC,append_nil->QzX,getElem?_drop->Qxv,nil_append->Qxz,take_add_one->QxX,length_singleton->QxC,append_assoc->Qxd,drop_zero->QxD,length_pos_iff->Qkc,all_cons->QxE
open Int renaming toNat_natCast->Qq8,eq_ofNat_of_zero_le->QxJ
open Prod renaming fst->Qq6
open Nat renaming le_refl->Qzx,zero_add->Qzc,le_trans->Qz2,add_zero->Qxx,zero_le->Qz5
open Bool renaming and_eq_true->Qzb,eq_iff_iff->Qz3,true_and->Qku
open ByteArray renaming size->Qxc
open UInt8 renaming toNat_lt->Qx1
set_option linter.unusedVariables false
set_option linter.unusedSimpArgs false
set_option linter.unusedSectionVars false
noncomputable section
namespace Go
abbrev Akd:=((List Int))×(List Int)×(List Int)
end Go
namespace Go.Proofs.YtekmbcbgknmhiaaGreatDoor
open Go Go.E Go.RowKit Go.L
set_option maxHeartbeats 1000000
set_option maxRecDepth 10000
open _root_.Go.Proofs.Tryz
def KV(a0 a1:Int):Option ((Int×Int)):=
 some ((a0,a1))
section
variable(w:World)(H:PH)(hH:Le H (hp w)) include hH
theorem Pe{a0 a1:Int}{r:(Int×Int)}(h:KV a0 a1=some r):
  Qqv 98 [No a0,No a1] w (fun v w'=>v=.agg #[No r.1,No r.2]):=by
 refine A1 8 [(0,No a0),(1,No a1)] func98 Z fun hL=>Aj<|A9 AE.e Z hL fun e f b c _=>Ad<|Bx 2 Z<|Ai (AT (fun _=>M6 _ _ _))<|Af 0 Z b Z fun g a d=>Ad<|Ay ?_
 cases h
 refine Dz (.cell Z Ajx Z AE.e (AG (i:=0) a Z)) ⟨a.ext,Z⟩
def D0(a0:(List Int)):Option Int:=
 some ((max (a0.length:Int) (1:Int)))
theorem K5{a0:(List Int)}{a:Value}(c:AJ (.int .i64) H a a0){r:Int}(h:D0 a0=some r):
  Qqv 97 [.agg #[a]] w (fun v w'=>v=No r):=by
 refine A1 7 [(0,.agg #[a])] func97 Z fun hL=>Aj<|CD (t:=96) Z Z hL fun e f b d _=>A8 1 Z<|Aj<|Ai (Ae Z AjQ Z Sy.e)<|Ai (Ag 0 Z b Z)<|Ai (Bm c)<|Ai (Adu Z Z)<|A8 1 Z<|Ay ?_
 cases h
 refine Al Z ⟨b.ext,Z⟩
def Eh(a0:((List Int))×(List Int)×(List Int)):Option Int:=
 Qq4 (D0 a0.1) (fun a=>AN (Bz (a - 1)) (some ((a - 1))))
theorem Hb(a0:((List Int))×(List Int)×(List Int)){a b c:Value}(e:AJ (.int .i64) H a (a0.1))(_h0_1:AJ (.int .i64) H b (a0.2.1))(_h0_2:AJ (.int .i64) H c (a0.2.2)){r:Int}(h:Eh a0=some r):
  Qqv 59 [.agg #[a,b,c]] w (fun v w'=>v=No r):=by
 refine A1 7 [(0,.agg #[a,b,c])] func59 Z fun hL=>Aj<|CD (t:=98) Z Z hL fun m o d j _=>A8 1 Z<|Aj<|Ai (Ae Z AjR Z Aak.e)<|Ai (KG 0 1 Z Aak.e d Z Z)<|Aw h fun p f h=>AD d (K5 (a0:=a0.1) _ _ (An d) (e.mono  Ah) f) fun q l g k=>A2 h fun i h=>Ai (A7 i)<|A8 1 Z<|Ay ?_
 cases h
 refine Al Z ⟨g.ext,Z⟩
def BR(a0:(List Int))(a1 a3 b a c d:Int):Option ((Int×Int×Int×Int) ⊕ (Int×Int)):=
 if(a0.getD a.toNat Qq2=a1)/\(a<a3) then AN (Bz (b+1)) (AN (Bz (a+1)) (some (Sum.inl (c,d,(b+1),(a+1))))) else AN (Bz (a+1)) (some (Sum.inl (c,d,b,(a+1))))
def Ev(a b c:Int):Option (Int×Int):=
 AN (Bz (a+b)) (AN (Bz (a+c)) (some ((a+b),(a+c))))
def Cx(a0:(List Int))(a1 a2 a3:Int):Int×Int×Int×Int->Option ((Int×Int×Int×Int) ⊕ (Int×Int)):=fun⟨b,c,d,a⟩=>
 if a<(a0.length:Int) then AN (0<=a/\a<(a0.length:Int)) (if a0.getD a.toNat Qq2=(-1) then(BR a0 a1 a3 d a) b c else(if a0.getD a.toNat Qq2<a1 then AN (Bz (b+1)) ((BR a0 a1 a3 d a) (b+1) c) else(if(a0.getD a.toNat Qq2=a1)/\(a<a2) then AN (Bz (c+1)) ((BR a0 a1 a3 d a) b (c+1)) else(BR a0 a1 a3 d a) b c))) else Qq7 Sum.inr (Ev b c d)
def Ir(a0:(List Int))(a1 a2 a3:Int)(s:Int×Int×Int×Int):Option (Int×Int):=Go.L.run (Cx a0 a1 a2 a3) s
def F9(a0:(List Int))(a1 a2 a3:Int):Option (Int×Int):=
 (Ir a0 a1 a2 a3) (1,0,0,0)
theorem Om{a0:(List Int)}{a1 a2 a3:Int}{g:Value}(q:AJ (.int .i64) H g a0){r:Int×Int}(h:F9 a0 a1 a2 a3=some r):
  Qqv 255 [.agg #[g],No a1,No a2,No a3] w (fun v w'=>v=.tuple #[No r.1,No r.2]):=by
 refine A1 60 [(0,.agg #[g]),(1,No a1),(2,No a2),(3,No a3)] func255 Z fun hL=>Aj<|CD (t:=96) Z Z hL fun w1 b1 ah ao _=>A8 2 Z<|AI 3 Z<|B2 (Int×Int×Int) (fun⟨i,j,k⟩=>[(10,No i),(11,No j),(12,No k)]) (fun⟨i,j,k⟩ wr=>Bb w [.box b1 [g] 96] wr/\Ev i j k=some r) ?_ ?_
 ·refine Aj<|Ai (Ae Z AjQ Z Sy.e)<|Ai (Ag 0 Z ah Z)<|Ai (Bm q)<|A8 1 Z<|A4 ?_;obtain⟨o,h⟩:=Ba h;refine B7 (Int×Int×Int×Int×Nat) (fun⟨b,c,d,a,n⟩=>[(1,No a1),(2,No a2),(3,No a3),(10,No b),(11,No c),(12,No d),(16,g),(17,No (a0.length:Int)),(18,No a)]) (fun⟨b,c,d,a,n⟩ wr=>Bb w [.box b1 [g] 96] wr/\Ia (Cx a0 a1 a2 a3) n (b,c,d,a)=some r) (fun⟨b,c,d,a,n⟩=>n) (1,0,0,0,o) Z ⟨ah,h⟩ ?_;rintro⟨b,c,d,a,nn94⟩ ap ⟨l,h⟩;obtain⟨o,am,rfl,h,m⟩:=AZ h;refine AI 1 Z<|AB<|AQ h ?_ ?_<;>intro aj h
  ·refine Ax<|As<|AB<|A4<|Bx 1 Z<|A2 h fun s h=>Bi q a.toNat (GX s) (AX s) ?_;rintro ar _ rfl ak;refine Ai (Bl ak (hH.trans l.arg))<|A8 2 Z<|B2 (Int×Int) (fun⟨e,f⟩=>[(1,No a1),(2,No a2),(3,No a3),(10,No e),(11,No f),(12,No d),(13,No a),(14,No (a0.getD a.toNat Qq2)),(16,g),(17,No (a0.length:Int)),(18,No a)]) (fun⟨e,f⟩ wr=>Bb w [.box b1 [g] 96] wr/\(BR a0 a1 a3 d a) e f=some am) ?_ ?_
   ·refine A4<|AI 3 Z<|AQ h ?_ ?_<;>intro u h
    ·refine Ax<|A3<|AA (_,_) ⟨l,h⟩
    refine AI 4 Z<|AQ h ?_ ?_<;>intro x h
    ·refine Au<|Ar 1 Z<|A2 h fun y h=>Ai (A7 y)<|Ar 1 Z<|AL<|A3<|AA (_,_) ⟨l,h⟩
    refine Bx 4 Z<|OM 3 3 Z Z Z Z Z Z<|A8 1 Z<|AQ h ?_ ?_<;>intro z h
    ·refine Au<|Ar 1 Z<|A2 h fun aa h=>Ai (A7 aa)<|Ar 1 Z<|AL<|A3<|AA (_,_) ⟨l,h⟩
    refine Ax<|A3<|AA (_,_) ⟨l,h⟩
   rintro⟨e,f⟩ an ⟨p,h⟩;refine Bx 4 Z<|OM 3 3 Z Z Z Z Z Z<|Ad<|AQ h ?_ ?_<;>intro ab h
   ·refine Au<|Ar 1 Z<|A2 h fun ac h=>Ai (A7 ac)<|Ar 1 Z<|AL<|A3<|As<|Au<|A2 h fun ad h=>Ai (A7 ad)<|Ar 1 Z<|AL ?_;have h:=Cf.again h m;refine AM (_,_,_,_,_) Z ⟨p,h⟩
   refine Ax<|A3<|As<|Au<|A2 h fun ae h=>Ai (A7 ae)<|Ar 1 Z<|AL ?_;have h:=Cf.again h m;refine AM (_,_,_,_,_) Z ⟨p,h⟩
  refine B4<|AF<|A5 ?_;have h:=Cf.out h m;refine Bg<|AA (_,_,_) ⟨l,h⟩
 rintro⟨i,j,k⟩ aq ⟨al,h⟩;refine Bx 2 Z<|A2 h fun af h=>Ai (A7 af)<|Ar 2 Z<|A2 h fun ag h=>Ai (A7 ag)<|A8 2 Z<|Ay ?_
 cases h
 refine Al Z ⟨al.ext,Z⟩
def EA(a b:Int):Option (Int×Int×(Int×Int)):=
 some (a,(max a b),(0,0))
def BU(a0:((List Int))×(List Int)×(List Int))(a1:AaV):Int×Int×Int->Option ((Int×Int×Int) ⊕ (Int×Int×(Int×Int))):=fun⟨b,c,a⟩=>
 if(0<=a)/\(b<c) then AN (0<=a/\a<(a1.length:Int)) (Qq4 (F9 a0.1 ((a1.getD a.toNat Qq2).toNat:Int) b c) (fun d=>AN (Bz (a - 1)) (some (Sum.inl (d.1,d.2,(a - 1)))))) else Qq7 Sum.inr (EA b c)
def Gj(a0:((List Int))×(List Int)×(List Int))(a1:AaV)(s:Int×Int×Int):Option (Int×Int×(Int×Int)):=Go.L.run (BU a0 a1) s
def EY(a0:((List Int))×(List Int)×(List Int))(a1:AaV):Option (Int×Int×(Int×Int)):=
 if(a1.length:Int)=0 then Qq4 (KV (10:Int) (-1:Int)) (fun b=>some (0,0,(b.1,b.2))) else(if 64<(a1.length:Int) then Qq4 (KV (3:Int) (-1:Int)) (fun a=>some (0,0,(a.1,a.2))) else Qq4 (D0 a0.1) (fun c=>AN (Bz ((a1.length:Int) - 1)) ((Gj a0 a1) (0,c,((a1.length:Int) - 1)))))
theorem Qk{a0:((List Int))×(List Int)×(List Int)}{a1:AaV}{f g j l:Value}(p:AJ (.int .i64) H f (a0.1))(_h0_1:AJ (.int .i64) H g (a0.2.1))(_h0_2:AJ (.int .i64) H j (a0.2.2))(m:AJ .byte H l a1){r:Int×Int×(Int×Int)}(h:EY a0 a1=some r):
  Qqv 198 [.agg #[f,g,j],l] w (fun v w'=>v=.tuple #[No r.1,No r.2.1,.agg #[No r.2.2.1,No r.2.2.2]]):=by
 refine A1 51 [(0,.agg #[f,g,j]),(1,l)] func198 Z fun hL=>Aj<|CD (t:=98) Z Z hL fun w1 b1 ax ba _=>Ar 2 Z<|A9 AE.e Z ax fun w2 b2 k bb _=>Ad<|AB<|Bx 1 Z<|Ai (Bm m)<|A8 1 Z<|AQ h ?_ ?_<;>intro ay h
 ·refine Aj<|Aw h fun x5 az h=>AD k (Pe _ _ (An k) az) fun w6 bi a2 bc=>Ar 2 Z<|Af 0 Z a2 Z fun w7 ad bd=>Ad<|Ay<|Aq ?_
  cases h
  refine X7 (.tmp Z) (.tmp Z) (.cell Z Ajx Z AE.e (AG (i:=0) ad Z)) ⟨ad.ext,Z⟩
 refine Ax<|As<|AB<|Bx 1 Z<|Ai (Bm m)<|A8 1 Z<|AQ h ?_ ?_<;>intro a3 h
 ·refine Aj<|Aw h fun bj ah h=>AD k (Pe _ _ (An k) ah) fun bk be ai a6=>Ar 2 Z<|Af 0 Z ai Z fun bl s a7=>Ad<|Ay<|Aq ?_
  cases h
  refine X7 (.tmp Z) (.tmp Z) (.cell Z Ajx Z AE.e (AG (i:=0) s Z)) ⟨s.ext,Z⟩
 refine Ax<|As<|Aj<|Ai (Ae Z AjR Z Aak.e)<|Ai (KG 1 1 Z Aak.e k Z Z)<|Aw h fun a4 aj h=>AD k (K5 (a0:=a0.1) _ _ (An k) (p.mono  Ah) aj) fun bm bf ak a8=>A8 2 Z<|B2 (Int×Int) (fun⟨d,e⟩=>[(6,(Aad b2)),(7,No d),(8,No e)]) (fun⟨d,e⟩ wr=>Bb w [.box b2 [No 0,No 0] 28,.box b1 [f,g,j] 98] wr/\EA d e=some r) ?_ ?_
 ·refine Bx 1 Z<|Ai (Bm m)<|A2 h fun al h=>Ai (A7 al)<|A8 1 Z<|A4 ?_;obtain⟨u,h⟩:=Ba h;refine B7 (Int×Int×Int×Nat) (fun⟨b,c,a,n⟩=>[(1,l),(2,(Aad b1)),(6,(Aad b2)),(7,No b),(8,No c),(9,No a)]) (fun⟨b,c,a,n⟩ wr=>Bb w [.box b2 [No 0,No 0] 28,.box b1 [f,g,j] 98] wr/\Ia (BU a0 a1) n (b,c,a)=some r) (fun⟨b,c,a,n⟩=>n) (0,a4,((a1.length:Int) - 1),u) Z ⟨ak,h⟩ ?_;rintro⟨b,c,a,nn69⟩ bg ⟨x,h⟩;obtain⟨u,bn,rfl,h,y⟩:=AZ h;refine AB<|Bx 3 Z<|OM 3 2 Z Z Z Z Z Z<|Ad<|AQ h ?_ ?_<;>intro am h
  ·refine Ax<|As<|AB<|A4<|Pw (Qqz 0 15 (.tail 15)) mixed Qqb (fun a5 an=>?_);have o:=x.call an;refine CB Z (Ae Z AjR Z Aak.e) Z<|CB Z (KG 1 1 Z Aak.e o Z Z) Z<|D4 2 Z<|A2 h fun z h=>HZ Z Z Z Af7 m a.toNat (GX z) (AX z) Z ?_;rintro bo _ rfl ao;refine CB Z (Bl ao (hH.trans o.arg)) Z<|CB Z (Lm (Rc _)) Z<|D4 2 Z<|Aw h fun ae ap h=>?_;have ac:=(fun(af:World) (aq:Ext a5 af)=>Om af _ (Le.refl _) ((p.mono (hH.trans o.arg)).mono aq.le) ap);refine JN Z Z Z ac<|D4 5 Z<|BT (fun bp ar=>?_);have au:=o.call ar;refine AL<|A3<|As<|Au<|Ar 1 Z<|A2 h fun av h=>Ai (A7 av)<|Ar 1 Z<|AL ?_;have h:=Cf.again h y;refine AM (_,_,_,_) Z ⟨au,h⟩
  refine B4<|AF<|A5 ?_;have h:=Cf.out h y;refine Bg<|AA (_,_) ⟨x,h⟩
 rintro⟨d,e⟩ bh ⟨aw,h⟩;refine Bx 3 Z<|Ai (Adu Z Z)<|Ai (AT (fun _=>BM _))<|Ar 2 Z<|Af 0 Z aw Z fun bq aa a9=>Ad<|Ay ?_
 cases h
 refine X7 (.tmp Z) (.tmp Z) (.cell Z Ajx Z AE.e (AG (i:=0) aa Z)) ⟨aa.ext,Z⟩
def E0(a0:((List Int))×(List Int)×(List Int))(a1:AaV):Option Aki:=
 Qq4 (EY (a0.1,a0.2.1,a0.2.2) a1) (fun a=>AN (Bz (a.2.1 - a.1)) (some ((a.2.1 - a.1),(a.2.2.1,a.2.2.2))))
theorem PE{a0:((List Int))×(List Int)×(List Int)}{a1:AaV}{a b c d:Value}(j:AJ (.int .i64) H a (a0.1))(k:AJ (.int .i64) H b (a0.2.1))(l:AJ (.int .i64) H c (a0.2.2))(m:AJ .byte H d a1){r:Int×(Int×Int)}(h:E0 a0 a1=some r):
  Qqv 148 [.agg #[a,b,c],d] w (fun v w'=>v=.tuple #[No r.1,.agg #[No r.2.1,No r.2.2]]):=by
 refine A1 20 [(0,.agg #[a,b,c]),(1,d)] func148 Z fun hL=>Aj<|CD (t:=98) Z Z hL fun w1 b1 s ad _=>Ar 1 Z<|A9 AE.e Z s fun w2 b2 e ae _=>Ad<|Aj<|Ai (Az 1 Z G8.e e Z)<|Ar 1 Z<|Aw h fun x3 u h=>AD e (Qk (a0:=(a0.1,a0.2.1,a0.2.2)) _ _ (An e) (j.mono  Ah) (k.mono  Ah) (l.mono  Ah) (m.mono  Ah) u) fun w4 ai x af=>Ar 4 Z<|A9 AE.e Z x fun w5 b5 y ag _=>Ar 2 Z<|Af 0 Z y Z fun w6 z ah=>Ad<|Ex (Qqz 0 5 (.tail 5)) mixed Qqb (fun w7 aa=>?_);have g:=z.call aa;refine D4 2 Z<|A2 h fun ab h=>CB Z (A7 ab) Z<|CB Z (Az 0 Z AE.e g Z) Z<|D4 1 Z<|BT (fun aj o=>?_);have p:=g.call o;refine Af 1 Z p Z fun ak f ac=>Ad<|Ay ?_
 cases h
 refine Bo (.tmp Z) (.cell Z Ajx Z AE.e (AG (i:=1) f Z)) ⟨f.ext,Z⟩
def Ij(a:AaV):Option AaV:=
 some a
def H3(a0:((List Int))×(List Int)×(List Int)):AaV×Int×Int->Option ((AaV×Int×Int) ⊕ (AaV)):=fun⟨c,a,b⟩=>
 if 0<=b then AN (0<=a/\a<(a0.1.length:Int)) (AN (0<=b/\b<(c.length:Int)) (AN (0<=a/\a<(a0.2.1.length:Int)) (AN (Bz (b - 1)) (some (Sum.inl ((c.set b.toNat (Go.L.u8 (a0.1.getD a.toNat Qq2))),a0.2.1.getD a.toNat Qq2,(b - 1))))))) else Qq7 Sum.inr (Ij c)
def JF(a0:((List Int))×(List Int)×(List Int))(s:AaV×Int×Int):Option AaV:=Go.L.run (H3 a0) s
def Jp(a0:((List Int))×(List Int)×(List Int)):Option AaV:=
 Qq4 (Eh (a0.1,a0.2.1,a0.2.2)) (fun a=>AN (0<=a/\((1:Nat):Int) * a<=281474976710656/\a<=9223372036854775807) (AN (Bz (((Qzz a.toNat (0:UInt8)).length:Int) - 1)) ((JF a0) ((Qzz a.toNat (0:UInt8)),0,(((Qzz a.toNat (0:UInt8)).length:Int) - 1)))))
theorem Ql{a0:((List Int))×(List Int)×(List Int)}{f g k:Value}(s:AJ (.int .i64) H f (a0.1))(u:AJ (.int .i64) H g (a0.2.1))(ah:AJ (.int .i64) H k (a0.2.2)){r:AaV}(h:Jp a0=some r):
  Qqv 100 [.agg #[f,g,k]] w (fun v w'=>∃ u0,v=u0/\Ck 5 .byte H w w' u0 r):=by
 refine A1 32 [(0,.agg #[f,g,k])] func100 Z fun hL=>Aj<|CD (t:=98) Z Z hL fun w1 b1 x a2 _=>A8 1 Z<|Aj<|Ai (Az 0 Z G8.e x Z)<|Aw h fun x2 av h=>AD x (Hb _ _ (An x) (a0.1,a0.2.1,a0.2.2) (s.mono  Ah) (u.mono  Ah) (ah.mono  Ah) av) fun w3 a7 aw a3=>A2 h fun ax h=>X9 (r:=.byte) (z:=(0:UInt8)) Af7 (fun _=>Z) hH aw ax fun v4 w4 ay ag a4 az=>A8 1 Z<|AI 1 Z<|B2 (AaV×(List Value)) (fun⟨m,e⟩=>[(3,v4)]) (fun⟨m,e⟩ wr=>FX w [.row v4 5 1 (m).length e,.box b1 [f,g,k] 98] wr fun Oz=>AH .byte (gz H w wr Oz) m e/\Ij m=some r) ?_ ?_
 ·refine Bx 1 Z<|Ai (Qw 0 Z ag Z)<|A2 h fun aj h=>Ai (A7 aj)<|A8 1 Z<|A4 ?_;obtain⟨y,h⟩:=Ba h;refine B7 (AaV×Int×Int×(List Value)×Nat) (fun⟨d,a,b,c,n⟩=>[(1,(Aad b1)),(3,v4),(4,No a),(5,No b)]) (fun⟨d,a,b,c,n⟩ wr=>FX w [.row v4 5 1 (d).length c,.box b1 [f,g,k] 98] wr fun Oz=>AH .byte (gz H w wr Oz) d c/\Ia (H3 a0) n (d,a,b)=some r) (fun⟨d,a,b,c,n⟩=>n) ((Qzz x2.toNat (0:UInt8)),0,(((Qzz x2.toNat (0:UInt8)).length:Int) - 1),ay,y) Z ⟨ag,az,h⟩ ?_;rintro⟨d,a,b,c,nn54⟩ a5 ⟨l,q,h⟩;obtain⟨y,a8,rfl,h,aa⟩:=AZ h;refine AB<|AI 2 Z<|AQ h ?_ ?_<;>intro ak h
  ·refine Ax<|As<|AB<|A4<|Bx 2 Z<|Ai (Ae Z AjR Z Aak.e)<|Ai (Ae Z AjQ Z Sy.e)<|Ai (Ag 1 Z l Z)<|Ar 1 Z<|A2 h fun ab h=>Bi s a.toNat (GX ab) (AX ab) ?_;rintro a9 _ rfl al;refine Ai (Bl al (hH.trans l.arg))<|Ai (Lm (NO _))<|A2 h fun o h=>KE 0 Z Af7 Ri.e l Z b.toNat (GX o) (AX o) fun ba am=>KF 0 b.toNat ((Go.L.u8 (a0.1.getD a.toNat Qq2))) Z Z hH l Z q am (AX o) Z fun bb an p a1 ao=>Ad<|Au<|Ai (Ae Z AjR Z Sy.e)<|Ai (Ag 1 Z p Z)<|Ar 1 Z<|A2 h fun ac h=>Bi u a.toNat (GX ac) (AX ac) ?_;rintro bc _ rfl ap;refine Ai (Bl ap (hH.trans p.arg))<|Ar 1 Z<|AL<|A3<|As<|Au<|Ar 1 Z<|A2 h fun aq h=>Ai (A7 aq) ?_
   refine Ar 1 Z<|AL ?_;have h:=Cf.again h aa;refine AM (_,_,_,_,_) Z ⟨p,ao,h⟩
  refine B4<|AF<|A5 ?_;have h:=Cf.out h aa;refine Bg<|AA (_,_) ⟨l,q,h⟩
 rintro⟨m,e⟩ a6 ⟨ad,af,h⟩;refine AI 2 Z<|Ay ?_
 cases h
 refine Al Z ⟨ad.ext,_,Z,(ad.Iq hH (i:=0) Z af)⟩
def FA(a:Int)(c:List Int)(b:Int):Option (Akm ⊕ (Akd×Bool)):=
 AN (Bz (a+1)) (some (Sum.inl (c,b,(a+1))))
def Dj(a0:List Int)(c:Int):(List Int)×Int×Int->Option (Akm ⊕ (Akm ⊕ (Akd×Bool))):=fun⟨d,b,a⟩=>
 if a<(a0.length:Int) then AN (0<=a/\a<(a0.length:Int)) (if a0.getD a.toNat Qq2=c then AN (0<=a/\a<(d.length:Int)) (AN (Bz (b+1)) (AN (Bz (a+1)) (some (Sum.inl ((d.set a.toNat b),(b+1),(a+1)))))) else AN (Bz (a+1)) (some (Sum.inl (d,b,(a+1))))) else Qq7 Sum.inr ((FA c) d b)
def H4(a0:List Int)(a:Int)(s:(List Int)×Int×Int):Option (Akm ⊕ (Akd×Bool)):=Go.L.run (Dj a0 a) s
def FB(c:List Int)(d:List Int)(a:Int)(e:List Int)(b:Bool):Option (Akd×Bool):=
 some ((e,c,(d.set a.toNat (0:Int))),b)
def FC(a0:List Int)(d:List Int)(c:List Int)(b:List Int)(a:Int):Option (Akd×Bool):=
 AN (0<=a/\a<(b.length:Int)) (AN (0<=a/\a<(a0.length:Int)) ((FB c b a) d (decide (a0.getD a.toNat Qq2=(-1)))))
def C5(a0:List Int)(e:List Int)(c:List Int):(List Int)×Int×Int->Option (Akm ⊕ (Akd×Bool)):=fun⟨d,a,b⟩=>
 if 0<b then AN (0<=a/\a<(d.length:Int)) (AN (0<=a/\a<(a0.length:Int)) (if a0.getD a.toNat Qq2=(-1) then Qq7 Sum.inr (some (([],[],[]),false)) else AN (0<=a/\a<(c.length:Int)) (AN (Bz (b - 1)) (some (Sum.inl ((d.set a.toNat b),c.getD a.toNat Qq2,(b - 1))))))) else Qq7 Sum.inr ((FC a0 e c) d a)
def FD(a0:List Int)(b:List Int)(a:List Int)(s:(List Int)×Int×Int):Option (Akd×Bool):=Go.L.run (C5 a0 b a) s
def FE(a0:List Int)(b:List Int)(c:List Int)(a:List Int):Option (Akd×Bool):=
 (FD a0 b a) (c,0,((a0.length:Int) - 1))
def Dk(a0:List Int)(d:List Int)(e:List Int):(List Int)×Int×Int->Option (Akm ⊕ (Akd×Bool)):=fun⟨b,c,a⟩=>
 if a<256 then(H4 a0 a) (b,c,0) else Qq7 Sum.inr ((FE a0 d e) b)
def Jq(a0:List Int)(a:List Int)(b:List Int)(s:(List Int)×Int×Int):Option (Akd×Bool):=Go.L.run (Dk a0 a b) s
def FF(a0:List Int)(a:List Int)(b:List Int)(c:List Int):Option (Akd×Bool):=
 (Jq a0 a c) (b,1,0)
def E1(a0:List Int):Option (Akd×Bool):=
 AN (Bz ((a0.length:Int) - 1)) (AN (Bz (((a0.length:Int) - 1)+1)) (AN (Bz (((a0.length:Int) - 1)+1)) (AN (0<=(((a0.length:Int) - 1)+1)/\((8:Nat):Int) * (((a0.length:Int) - 1)+1)<=281474976710656/\(((a0.length:Int) - 1)+1)<=9223372036854775807) (AN (0<=(((a0.length:Int) - 1)+1)/\((8:Nat):Int) * (((a0.length:Int) - 1)+1)<=281474976710656/\(((a0.length:Int) - 1)+1)<=9223372036854775807) ((FF a0) a0 (Qzz (((a0.length:Int) - 1)+1).toNat (0:Int)) (Qzz (((a0.length:Int) - 1)+1).toNat (0:Int)))))))
theorem PF{a0:List Int}{c:Value}(m:AJ (.int .i64) H c a0){r:Akd×Bool}(h:E1 a0=some r):
  Qqv 76 [c] w (fun v w'=>∃ u0 u1 u2,v=.tuple #[.agg #[u0,u1,u2],.bool r.2]/\AJ (.int .i64) (un H (nw w w')) u0 (r.1.1)/\Ck 3 (.int .i64) H w w' u1 (r.1.2.1)/\Ck 3 (.int .i64) H w w' u2 (r.1.2.2)):=by
 refine A1 77 [(0,c)] func76 Z fun hL=>Aj<|A9 G8.e Z hL fun w1 b1 ga gw _=>A8 1 Z<|Bx 1 Z<|Ai (Bm m)<|A2 h fun gb h=>Ai (A7 gb)<|A8 1 Z<|B2 ((List Int)×(List Int)×(List Int)×Nat×Value×Value×(List Value)×Value×(List Value)) (fun⟨ab,bf,ac,bjb43,d,e,ay,f,p⟩=>[(0,c),(2,(Aad b1)),(4,No ((a0.length:Int) - 1)),(5,(Aad bjb43))]) (fun⟨ab,bf,ac,bjb43,d,e,ay,f,p⟩ wr=>FX w [.box bjb43 [d,e,f] 98,.row f 3 1 (ac).length p,.row e 3 1 (bf).length ay,.box b1 [Aac,Aac,Aac] 98] wr fun Oz=>AJ (.int .i64) (gz H w wr Oz) d ab/\AH (.int .i64) (gz H w wr Oz) ac p/\AH (.int .i64) (gz H w wr Oz) bf ay/\(FF a0) ab bf ac=some r) ?_ ?_
 ·refine Pw (Qqz 0 4 (.q 5 (.q 6 (.h3 4 (.h2 7 (.q 8 (.h 9 (.tail 10))) 9 (.h 7 (.q 8 (.tail 10)))) 7 (.h2 4 (.q 8 (.h 9 (.tail 10))) 9 (.h 4 (.q 8 (.tail 10)))) 9 (.h2 4 (.h 7 (.q 8 (.tail 10))) 7 (.h 4 (.q 8 (.tail 10)))))))) mixed Qqb (fun hh fx=>?_);have b5:=ga.call fx;refine D4 1 Z<|CB Z (AT (fun _=>Agm _ m.one _)) Z<|D4 1 Z<|A2 h fun fy h=>CB Z (A7 fy) Z<|D4 1 Z<|A2 h fun fz h=>CB Z (A7 fz) Z<|Aj1 ?_ ?_ ?_
  ·refine A2 h fun ax h=>MO 0 (r:=(.int .i64)) Z Z Z Z AhD (fun _=>Z) Z hH b5 ax fun cq hi b6 dm gk a7=>YB ?_ ?_
   ·refine A2 h fun ao h=>MO 0 (r:=(.int .i64)) Z Z Z Z AhD (fun _=>Z) Z hH dm ao fun gc hj f0 b7 ew b8=>CB Z (AT (fun _=>L6 _ _ (row_one (b7.at (i:=1) Z)) _ (row_one (b7.at (i:=0) Z)) _)) Z<|Py Z G8.e Z Z b7 fun hk gd dn cr=>BT (fun hl dp=>?_);have b9:=dn.call dp;have cs:=AR dn dp;refine Af 0 Z b9 Z (a:=(Bk m.one (Bk (row_one (b9.at (i:=2) Z)) (Bk (row_one (b9.at (i:=1) Z)) Kq)))) fun hm f1 ct=>AL ?_;have a7:=a7.mono (Aa (ew.trans (cr.trans (cs.trans ct))));have b8:=b8.mono (Aa (cr.trans (cs.trans ct)));refine AA (a0,(Qzz (((a0.length:Int) - 1)+1).toNat (0:Int)),(Qzz (((a0.length:Int) - 1)+1).toNat (0:Int)),gd,c,cq,b6,gc,f0) ⟨f1,(m.mono  Ah),b8,a7,h⟩
   refine A2 h fun ao h=>Py Z G8.e Z Z dm fun hn fu f2 ex=>MO 0 (r:=(.int .i64)) Z Z Z Z AhD (fun _=>Z) Z hH f2 ao fun dq ho dr bj ey ca=>CB Z (AT (fun _=>L6 _ _ (row_one (bj.at (i:=2) Z)) _ (row_one (bj.at (i:=0) Z)) _)) Z<|BT (fun hq ds=>?_);have cb:=bj.call ds;have cu:=AR bj ds;refine Af 1 Z cb Z (a:=(Bk m.one (Bk (row_one (cb.at (i:=2) Z)) (Bk (row_one (cb.at (i:=0) Z)) Kq)))) fun ge dt cv=>AL ?_;have du:Bb w [.box fu [c,cq,dq] 98,.row dq 3 1 ((Qzz (((a0.length:Int) - 1)+1).toNat (0:Int))).length dr,.row cq 3 1 ((Qzz (((a0.length:Int) - 1)+1).toNat (0:Int))).length b6,.box b1 [Aac,Aac,Aac] 98] ge:=dt.C1 [1] Z;have cw:=B3 [1] dt du Z;have a7:=a7.mono (Aa (ex.trans (ey.trans (cu.trans (cv.trans cw)))));have ca:=ca.mono (Aa (cu.trans (cv.trans cw)))
   refine AA (a0,(Qzz (((a0.length:Int) - 1)+1).toNat (0:Int)),(Qzz (((a0.length:Int) - 1)+1).toNat (0:Int)),fu,c,cq,b6,dq,dr) ⟨du,(m.mono  Ah),ca,a7,h⟩
  ·refine A2 h fun ax h=>A2 h fun ao h=>MO 0 (r:=(.int .i64)) Z Z Z Z AhD (fun _=>Z) Z hH b5 ao fun bg hr bk dv gl a8=>YB ?_ ?_
   ·refine MO 0 (r:=(.int .i64)) Z Z Z Z AhD (fun _=>Z) Z hH dv ax fun dw hs dx cc ez cd=>CB Z (AT (fun _=>L6 _ _ (row_one (cc.at (i:=0) Z)) _ (row_one (cc.at (i:=1) Z)) _)) Z<|Py Z G8.e Z Z cc fun ht fv dy cx=>BT (fun hu dz=>?_);have ce:=dy.call dz;have cy:=AR dy dz;refine Af 0 Z ce Z (a:=(Bk m.one (Bk (row_one (ce.at (i:=1) Z)) (Bk (row_one (ce.at (i:=2) Z)) Kq)))) fun gf d0 cz=>AL ?_;have d1:Bb w [.box fv [c,dw,bg] 98,.row bg 3 1 ((Qzz (((a0.length:Int) - 1)+1).toNat (0:Int))).length bk,.row dw 3 1 ((Qzz (((a0.length:Int) - 1)+1).toNat (0:Int))).length dx,.box b1 [Aac,Aac,Aac] 98] gf:=d0.C1 [2,1] Z;have c0:=B3 [2,1] d0 d1 Z;have a8:=a8.mono (Aa (ez.trans (cx.trans (cy.trans (cz.trans c0)))));have cd:=cd.mono (Aa (cx.trans (cy.trans (cz.trans c0))));refine AA (a0,(Qzz (((a0.length:Int) - 1)+1).toNat (0:Int)),(Qzz (((a0.length:Int) - 1)+1).toNat (0:Int)),fv,c,dw,dx,bg,bk) ⟨d1,(m.mono  Ah),a8,cd,h⟩
   refine Py Z G8.e Z Z dv fun hv fw f3 e0=>MO 0 (r:=(.int .i64)) Z Z Z Z AhD (fun _=>Z) Z hH f3 ax fun d2 hw d3 bl e1 cf=>CB Z (AT (fun _=>L6 _ _ (row_one (bl.at (i:=0) Z)) _ (row_one (bl.at (i:=2) Z)) _)) Z<|BT (fun hx d4=>?_);have cg:=bl.call d4;have c1:=AR bl d4;refine Af 1 Z cg Z (a:=(Bk m.one (Bk (row_one (cg.at (i:=0) Z)) (Bk (row_one (cg.at (i:=2) Z)) Kq)))) fun gg d5 c2=>AL ?_;have d6:Bb w [.box fw [c,d2,bg] 98,.row bg 3 1 ((Qzz (((a0.length:Int) - 1)+1).toNat (0:Int))).length bk,.row d2 3 1 ((Qzz (((a0.length:Int) - 1)+1).toNat (0:Int))).length d3,.box b1 [Aac,Aac,Aac] 98] gg:=d5.C1 [2,2] Z;have c3:=B3 [2,2] d5 d6 Z;have a8:=a8.mono (Aa (e0.trans (e1.trans (c1.trans (c2.trans c3)))));have cf:=cf.mono (Aa (c1.trans (c2.trans c3)));refine AA (a0,(Qzz (((a0.length:Int) - 1)+1).toNat (0:Int)),(Qzz (((a0.length:Int) - 1)+1).toNat (0:Int)),fw,c,d2,d3,bg,bk) ⟨d6,(m.mono  Ah),a8,cf,h⟩
  refine A2 h fun ax h=>A2 h fun ao h=>Py Z G8.e Z Z b5 fun hy c4 d7 gm=>YB ?_ ?_
  ·refine MO 0 (r:=(.int .i64)) Z Z Z Z AhD (fun _=>Z) Z hH d7 ax fun d8 hz d9 f4 gn ch=>MO 0 (r:=(.int .i64)) Z Z Z Z AhD (fun _=>Z) Z hH f4 ao fun ea h0 eb bm e2 ci=>CB Z (AT (fun _=>L6 _ _ (row_one (bm.at (i:=1) Z)) _ (row_one (bm.at (i:=0) Z)) _)) Z<|BT (fun h1 ec=>?_);have cj:=bm.call ec;have c5:=AR bm ec;refine Af 2 Z cj Z (a:=(Bk m.one (Bk (row_one (cj.at (i:=1) Z)) (Bk (row_one (cj.at (i:=0) Z)) Kq)))) fun gh ed c6=>AL ?_;have ee:Bb w [.box c4 [c,d8,ea] 98,.row ea 3 1 ((Qzz (((a0.length:Int) - 1)+1).toNat (0:Int))).length eb,.row d8 3 1 ((Qzz (((a0.length:Int) - 1)+1).toNat (0:Int))).length d9,.box b1 [Aac,Aac,Aac] 98] gh:=ed.C1 [2] Z;have c7:=B3 [2] ed ee Z;have ch:=ch.mono (Aa (e2.trans (c5.trans (c6.trans c7))));have ci:=ci.mono (Aa (c5.trans (c6.trans c7)))
   refine AA (a0,(Qzz (((a0.length:Int) - 1)+1).toNat (0:Int)),(Qzz (((a0.length:Int) - 1)+1).toNat (0:Int)),c4,c,d8,d9,ea,eb) ⟨ee,(m.mono  Ah),ci,ch,h⟩
  refine MO 0 (r:=(.int .i64)) Z Z Z Z AhD (fun _=>Z) Z hH d7 ao fun ef h4 eg f5 go ck=>MO 0 (r:=(.int .i64)) Z Z Z Z AhD (fun _=>Z) Z hH f5 ax fun eh h5 ei bn e3 cl=>CB Z (AT (fun _=>L6 _ _ (row_one (bn.at (i:=0) Z)) _ (row_one (bn.at (i:=1) Z)) _)) Z<|BT (fun h6 ej=>?_);have cm:=bn.call ej;have c8:=AR bn ej;refine Af 2 Z cm Z (a:=(Bk m.one (Bk (row_one (cm.at (i:=0) Z)) (Bk (row_one (cm.at (i:=1) Z)) Kq)))) fun gi ek c9=>AL ?_;have el:Bb w [.box c4 [c,eh,ef] 98,.row ef 3 1 ((Qzz (((a0.length:Int) - 1)+1).toNat (0:Int))).length eg,.row eh 3 1 ((Qzz (((a0.length:Int) - 1)+1).toNat (0:Int))).length ei,.box b1 [Aac,Aac,Aac] 98] gi:=ek.C1 [1,2] Z;have da:=B3 [1,2] ek el Z;have ck:=ck.mono (Aa (e3.trans (c8.trans (c9.trans da))));have cl:=cl.mono (Aa (c8.trans (c9.trans da)))
  refine AA (a0,(Qzz (((a0.length:Int) - 1)+1).toNat (0:Int)),(Qzz (((a0.length:Int) - 1)+1).toNat (0:Int)),c4,c,eh,ei,ef,eg) ⟨el,(m.mono  Ah),ck,cl,h⟩
 rintro⟨ab,bf,ac,bjb43,d,e,ay,f,p⟩ gx ⟨em,e4,e5,e6,h⟩;have cn:=em.rG H;refine AI 1 Z<|B2 ((List Int)×(List Value)) (fun⟨t,o⟩=>[(0,c),(2,(Aad b1)),(4,No ((a0.length:Int) - 1)),(5,(Aad bjb43))]) (fun⟨t,o⟩ wr=>FX w [.box bjb43 [d,e,f] 98,.row f 3 1 (ac).length p,.row e 3 1 (t).length o,.box b1 [Aac,Aac,Aac] 98] wr fun Oz=>AJ (.int .i64) (gz H w wr Oz) d ab/\AH (.int .i64) (gz H w wr Oz) ac p/\AH (.int .i64) (gz H w wr Oz) t o/\(FE a0 ab ac) t=some r) ?_ ?_
 ·refine AI 1 Z<|A4 ?_;obtain⟨co,h⟩:=Ba h;refine B7 ((List Int)×Int×Int×(List Value)×Nat) (fun⟨ap,aj,k,ag,n⟩=>[(0,c),(2,(Aad b1)),(4,No ((a0.length:Int) - 1)),(5,(Aad bjb43)),(6,No aj),(24,No k)]) (fun⟨ap,aj,k,ag,n⟩ wr=>FX w [.box bjb43 [d,e,f] 98,.row f 3 1 (ac).length p,.row e 3 1 (ap).length ag,.box b1 [Aac,Aac,Aac] 98] wr fun Oz=>AJ (.int .i64) (gz H w wr Oz) d ab/\AH (.int .i64) (gz H w wr Oz) ac p/\AH (.int .i64) (gz H w wr Oz) ap ag/\Ia (Dk a0 ab ac) n (ap,aj,k)=some r) (fun⟨ap,aj,k,ag,n⟩=>n) (bf,1,0,ay,co) Z ⟨em,(e4.mono cn),(e5.mono cn),(e6.mono cn),h⟩ ?_;rintro⟨ap,aj,k,ag,nn237⟩ gp ⟨bo,bh,he237_j47,b2,h⟩;obtain⟨co,en,rfl,h,db⟩:=AZ h;have av:=bo.rG H;refine AI 1 Z<|AB<|AQ h ?_ ?_<;>intro e7 h
  ·refine Ax<|As<|B2 ((List Int)×Int×(List Value)) (fun⟨a9,aq,ar⟩=>[(0,c),(2,(Aad b1)),(4,No ((a0.length:Int) - 1)),(5,(Aad bjb43)),(6,No aq),(24,No k)]) (fun⟨a9,aq,ar⟩ wr=>FX w [.box bjb43 [d,e,f] 98,.row f 3 1 (ac).length p,.row e 3 1 (a9).length ar,.box b1 [Aac,Aac,Aac] 98] wr fun Oz=>AJ (.int .i64) (gz H w wr Oz) d ab/\AH (.int .i64) (gz H w wr Oz) ac p/\AH (.int .i64) (gz H w wr Oz) a9 ar/\(FA k) a9 aq=some en) ?_ ?_
   ·refine A4<|AI 2 Z<|Bx 1 Z<|Ai (Bm m)<|A8 1 Z<|A4 ?_;obtain⟨bp,h⟩:=Ba h;refine B7 ((List Int)×Int×Int×(List Value)×Nat) (fun⟨al,u,l,ah,n⟩=>[(0,c),(2,(Aad b1)),(4,No ((a0.length:Int) - 1)),(5,(Aad bjb43)),(6,No u),(7,No k),(24,No k),(27,c),(28,No (a0.length:Int)),(29,No l)]) (fun⟨al,u,l,ah,n⟩ wr=>FX w [.box bjb43 [d,e,f] 98,.row f 3 1 (ac).length p,.row e 3 1 (al).length ah,.box b1 [Aac,Aac,Aac] 98] wr fun Oz=>AJ (.int .i64) (gz H w wr Oz) d ab/\AH (.int .i64) (gz H w wr Oz) ac p/\AH (.int .i64) (gz H w wr Oz) al ah/\Ia (Dj a0 k) n (al,u,l)=some en) (fun⟨al,u,l,ah,n⟩=>n) (ap,aj,0,ag,bp) Z ⟨bo,(bh.mono av),(he237_j47.mono av),(b2.mono av),h⟩ ?_;rintro⟨al,u,l,ah,nn299⟩ gq ⟨am,ba,he299_j47,be,h⟩;obtain⟨bp,gy,rfl,h,bq⟩:=AZ h;have y:=am.rG H;refine AI 1 Z<|AB<|AQ h ?_ ?_<;>intro e8 h
    ·refine Ax<|As<|AB<|A4<|Bx 1 Z<|A2 h fun dc h=>Bi m l.toNat (GX dc) (AX dc) ?_;rintro g0 _ rfl e9;refine Ai (Bl e9 (hH.trans am.arg))<|A8 2 Z<|AI 3 Z<|AQ h ?_ ?_<;>intro fa h
     ·refine Aj<|Ai (Ae Z AjR Z Sy.e)<|Ai (Ag 0 Z am Z)<|Ar 2 Z<|A2 h fun br h=>KE 2 Z AhD CR.e am Z l.toNat (GX br) (AX br) fun g1 fb=>KF 2 l.toNat u Z Z hH am Z (be.mono y) fb (AX br) Z fun g2 fc fd eo fe=>Ad<|Au<|Ar 1 Z<|A2 h fun ff h=>Ai (A7 ff)<|Ar 1 Z<|AL<|A3<|As<|Au<|A2 h fun fg h=>Ai (A7 fg)<|Ar 1 Z<|AL ?_;have h:=Cf.again h bq;have y:=y.trans (Aa eo);refine AM (_,_,_,_,_) Z ⟨fd,(ba.mono y),(he299_j47.mono y),fe,h⟩
     refine Ax<|A3<|As<|Au<|A2 h fun fh h=>Ai (A7 fh)<|Ar 1 Z<|AL ?_;have h:=Cf.again h bq;refine AM (_,_,_,_,_) Z ⟨am,(ba.mono y),(he299_j47.mono y),(be.mono y),h⟩
    refine B4<|AF<|A5 ?_;have h:=Cf.out h bq;refine Bg<|A3<|AA (_,_,_) ⟨am,(ba.mono y),(he299_j47.mono y),(be.mono y),h⟩
   rintro⟨a9,aq,ar⟩ gr ⟨dd,dk,he279_j47,ep,h⟩;have bs:=dd.rG H;refine Au<|A2 h fun fi h=>Ai (A7 fi)<|Ar 1 Z<|AL ?_;have h:=Cf.again h db;refine AM (_,_,_,_,_) Z ⟨dd,(dk.mono bs),(he279_j47.mono bs),(ep.mono bs),h⟩
  refine B4<|AF<|A5 ?_;have h:=Cf.out h db;refine Bg<|AA (_,_) ⟨bo,(bh.mono av),(he237_j47.mono av),(b2.mono av),h⟩
 rintro⟨t,o⟩ gs ⟨de,dl,he189_j47,eq,h⟩;have bt:=de.rG H;refine AI 1 Z<|B2 ((List Int)×Int×(List Value)) (fun⟨an,a,az⟩=>[(0,c),(2,(Aad b1)),(5,(Aad bjb43)),(10,No a)]) (fun⟨an,a,az⟩ wr=>FX w [.box bjb43 [d,e,f] 98,.row f 3 1 (an).length az,.row e 3 1 (t).length o,.box b1 [Aac,Aac,Aac] 98] wr fun Oz=>AJ (.int .i64) (gz H w wr Oz) d ab/\AH (.int .i64) (gz H w wr Oz) an az/\AH (.int .i64) (gz H w wr Oz) t o/\(FC a0 ab t) an a=some r) ?_ ?_
 ·refine AI 2 Z<|A4 ?_;obtain⟨cp,h⟩:=Ba h;refine B7 ((List Int)×Int×Int×(List Value)×Nat) (fun⟨au,g,x,ak,n⟩=>[(0,c),(2,(Aad b1)),(5,(Aad bjb43)),(10,No g),(11,No x)]) (fun⟨au,g,x,ak,n⟩ wr=>FX w [.box bjb43 [d,e,f] 98,.row f 3 1 (au).length ak,.row e 3 1 (t).length o,.box b1 [Aac,Aac,Aac] 98] wr fun Oz=>AJ (.int .i64) (gz H w wr Oz) d ab/\AH (.int .i64) (gz H w wr Oz) au ak/\AH (.int .i64) (gz H w wr Oz) t o/\Ia (C5 a0 ab t) n (au,g,x)=some r) (fun⟨au,g,x,ak,n⟩=>n) (ac,0,((a0.length:Int) - 1),p,cp) Z ⟨de,(dl.mono bt),(he189_j47.mono bt),(eq.mono bt),h⟩ ?_;rintro⟨au,g,x,ak,nn382⟩ gt ⟨a1,bi,b3,he382_j45,h⟩;obtain⟨cp,g3,rfl,h,bu⟩:=AZ h;refine AB ?_;have ad:=a1.rG H;refine AI 2 Z<|AQ h ?_ ?_<;>intro fj h
  ·refine Ax<|As<|AB<|A4<|Aj<|Ai (Ae Z AjR Z Sy.e)<|Ai (Ag 0 Z a1 Z)<|Ar 2 Z<|A2 h fun bv h=>KE 1 Z AhD CR.e a1 Z g.toNat (GX bv) (AX bv) fun g4 fk=>KF 1 g.toNat x Z Z hH a1 Z (b3.mono ad) fk (AX bv) Z fun g5 fl a2 er fm=>Ad<|AB<|Bx 2 Z<|A2 h fun df h=>Bi m g.toNat (GX df) (AX df) ?_;rintro g6 _ rfl fn;refine Ai (Bl fn (hH.trans a2.arg))<|A8 1 Z<|AQ h ?_ ?_<;>intro fo h
   ·refine Aj<|Ai (AT (fun _=>Aby _))<|Af 3 Z a2 Z fun g7 dg gj=>A8 1 Z<|Ay<|Aq<|Av<|Aq<|BJ ?_;have h:=Cf.out h bu;refine Av<|Bs ?_
    cases h
    refine Bo (.cell Z AjR Z G8.e (AG (i:=3) dg Z)) (.tmp Z) ⟨dg.ext,_,_,_,Z,(AJ.nil _ _),Ck.nil,Ck.nil⟩
   refine Ax<|As<|Au<|Ai (Ae Z AjR Z Sy.e)<|Ai (Ag 0 Z a2 Z)<|Ar 1 Z<|A2 h fun dh h=>?_;have ad:=ad.trans (Aa er);refine Bi (a2.RU hH (i:=2) Z (he382_j45.mono ad)) g.toNat (GX dh) (AX dh) ?_;rintro g8 _ rfl fp;refine Ai (Bl fp (Le.refl _))<|Ar 1 Z<|AL<|A3<|As<|Au<|Ar 1 Z<|A2 h fun fq h=>Ai (A7 fq)<|Ar 1 Z<|AL ?_;have h:=Cf.again h bu;refine AM (_,_,_,_,_) Z ⟨a2,(bi.mono ad),fm,(he382_j45.mono ad),h⟩
  refine B4<|AF<|A5 ?_;have h:=Cf.out h bu;refine Bg<|AA (_,_,_) ⟨a1,(bi.mono ad),(b3.mono ad),(he382_j45.mono ad),h⟩
 rintro⟨an,a,az⟩ gu ⟨bb,af,es,he361_j45,h⟩;have s:=bb.rG H;refine Aj<|Ai (Ae Z AjR Z Sy.e)<|Ai (Ag 0 Z bb Z)<|Ar 1 Z<|A2 h fun bw h=>KE 1 Z AhD CR.e bb Z a.toNat (GX bw) (AX bw) fun g9 fr=>KF 1 a.toNat 0 Z Z hH bb Z (es.mono s) fr (AX bw) Z fun ha bx di b4 aw=>Ad<|B2 ((List Int)×Bool×Value) (fun⟨bz,a3,bc⟩=>[(2,(Aad b1)),(3,.bool a3)]) (fun⟨bz,a3,bc⟩ wr=>FX w [.box bjb43 [d,e,f] 98,.row f 3 1 ((an.set a.toNat (0:Int))).length bx,.row e 3 1 (t).length o,.box b1 [bc,e,f] 98] wr fun Oz=>AJ (.int .i64) (gz H w wr Oz) d ab/\AH (.int .i64) (gz H w wr Oz) ((an.set a.toNat (0:Int))) bx/\AH (.int .i64) (gz H w wr Oz) t o/\AJ (.int .i64) (gz H w wr Oz) bc bz/\(FB t an a) bz a3=some r) ?_ ?_
 ·refine J7 (NP MP) (fun z0 z=>Le (gz H w z0 [.box bjb43 [d,e,f] 98,.row f 3 1 ((an.set a.toNat (0:Int))).length bx,.row e 3 1 (t).length o,.box b1 [Aac,Aac,Aac] 98]) (hp z)/\z.heap[bjb43]? = some (.cells [d,e,f].toArray 98 (0,0))) mixed Z (fun ae hc dj=>?_);have aa:=di.call dj;have a4:=AR di dj;have b:=aa.rG H;refine MQ ⟨b.trans (An aa),aa.at (i:=0) Z⟩ fun kI426=>A6 0 ae kI426 Z (fun _ hI=>LM hI.2) Z<|A6 1 ae kI426 Z (fun _ _=>Am Z) Z<|A6 2 ae kI426 Z (fun _ _=>Am Z) Z<|NI2 3 6 Z Z ?_ ?_
  ·refine A2 h fun a5 h=>Bi m a.toNat (GX a5) (AX a5) ?_;rintro hd _ rfl fs;refine AV ⟨b.trans (An aa),aa.at (i:=0) Z⟩ fun kI429=>A6 4 ae kI429 Z (fun _ hI=>Bl (fs.mono  Ah) hI.1) Z<|A6 5 ae kI429 Z (fun _ _=>Am Z) Z<|FY 6 Z ?_;have s:=s.trans (Aa (b4.trans a4));refine Af 3 Z aa Z (a:=(Bk ((af.mono s).mono b).one (Bk (row_one (aa.at (i:=2) Z)) (Bk (row_one (aa.at (i:=1) Z)) Kq)))) ?_;intro he b0 et;have b:=b.trans (Aa et);refine AV ⟨b.trans (An b0),b0.at (i:=0) Z⟩ fun kI431=>A6 7 ae kI431 Z (fun _ _=>Am Z) Z<|EF ?_;have aw:=aw.mono (Aa a4);refine AA (_,_,_) ⟨b0,((af.mono s).mono b),(aw.mono b),((he361_j45.mono s).mono b),((af.mono s).mono b),h⟩
  refine A2 h fun a5 h=>?_;have s:=s.trans (Aa (b4.trans a4));refine Af 3 Z aa Z (a:=(Bk ((af.mono s).mono b).one (Bk (row_one (aa.at (i:=2) Z)) (Bk (row_one (aa.at (i:=1) Z)) Kq)))) ?_;intro hf a6 eu;have b:=b.trans (Aa eu);refine AV ⟨b.trans (An a6),a6.at (i:=0) Z⟩ fun kI433=>FY 3 Z<|Bi m a.toNat (GX a5) (AX a5) ?_;rintro hg _ rfl ft;refine AV ⟨b.trans (An a6),a6.at (i:=0) Z⟩ fun kI435=>A6 4 ae kI435 Z (fun _ hI=>Bl (ft.mono  Ah) hI.1) Z<|A6 5 ae kI435 Z (fun _ _=>Am Z) Z<|A6 7 ae kI435 Z (fun _ _=>Am Z) Z<|EF ?_;have aw:=aw.mono (Aa a4);refine AA (_,_,_) ⟨a6,((af.mono s).mono b),(aw.mono b),((he361_j45.mono s).mono b),((af.mono s).mono b),h⟩
 rintro⟨bz,a3,bc⟩ gv ⟨bd,f6,he421_j47,he421_j45,ev,h⟩;refine Ay ?_
 cases h
 refine Bo (.cell Z AjR Z G8.e (AG (i:=3) bd Z)) (.tmp Z) ⟨bd.ext,_,_,_,Z,(ev.mono  EE),(bd.Iq hH (i:=2) Z he421_j45),(bd.Iq hH (i:=1) Z he421_j47)⟩
def Ik(a0:((List Int))×(List Int)×(List Int))(a1 a2:Int):Option (AaV×(Int×Int)):=
 if a1<0 then none else Qq4 (Eh (a0.1,a0.2.1,a0.2.2)) (fun d=>if d<a1 then none else(if a2<a1 then none else Qq4 (Eh (a0.1,a0.2.1,a0.2.2)) (fun b=>if b<a2 then none else Qq4 (Jp (a0.1,a0.2.1,a0.2.2)) (fun a=>AN (0<=a1/\a1<=a2/\a2<=(a.length:Int)) (Qq4 (Em ((a.drop a1.toNat).take (a2.toNat - a1.toNat))) (fun c=>some (c,(0,0))))))))
theorem OC{a0:((List Int))×(List Int)×(List Int)}{a1 a2:Int}{d e f:Value}(g:AJ (.int .i64) H d (a0.1))(j:AJ (.int .i64) H e (a0.2.1))(k:AJ (.int .i64) H f (a0.2.2)){r:AaV×(Int×Int)}(h:Ik a0 a1 a2=some r):
  Qqv 60 [.agg #[d,e,f],No a1,No a2] w (fun v w'=>∃ u0,v=.tuple #[u0,.agg #[No r.2.1,No r.2.2]]/\Ck 5 .byte H w w' u0 (r.1)):=by
 refine A1 34 [(0,.agg #[d,e,f]),(1,No a1),(2,No a2)] func60 Z fun hL=>Aj<|CD (t:=98) Z Z hL fun w1 b1 ak ar _=>Ar 1 Z<|A9 AE.e Z ak fun w2 b2 p au _=>Ad<|AB<|Bx 3 Z<|CI 10 h ?_ ?_<;>intro b h
 ·iterate 4 refine Ao b ?_
  refine Ai (AK b Z)<|Ad<|Fq ?_
  cases h
 refine Ab b<|Ai (Am Z)<|Ab b<|Ai (Az 1 Z G8.e p Z)<|Ab b<|Aw h fun x6 al h=>AD p (Hb _ _ (An p) (a0.1,a0.2.1,a0.2.2) (g.mono  Ah) (j.mono  Ah) (k.mono  Ah) al) fun w7 ay q av=>Ab b<|Ai (Am Z)<|Ai (AO b Z)<|Ad<|AQ h ?_ ?_<;>intro am h
 ·cases h
 refine Ax<|As<|AB<|Bx 4 Z<|CI 20 h ?_ ?_<;>intro a h
 ·iterate 4 refine Ao a ?_
  refine Ai (AK a Z)<|Ad<|Fq ?_
  cases h
 refine Ab a<|Ai (Am Z)<|Ab a<|Ai (Az 1 Z G8.e q Z)<|Ab a<|Aw h fun az ab h=>AD q (Hb _ _ (An q) (a0.1,a0.2.1,a0.2.2) (g.mono  Ah) (j.mono  Ah) (k.mono  Ah) ab) fun a3 aw c an=>Ab a<|Ai (Am Z)<|Ai (AO a Z)<|Ad<|AQ h ?_ ?_<;>intro ac h
 ·cases h
 refine Ax<|As<|Aj<|Ai (Az 1 Z G8.e c Z)<|Aw h fun a4 ad h=>Bf c (Ql (a0:=(a0.1,a0.2.1,a0.2.2)) _ _ (An c) (g.mono  Ah) (j.mono  Ah) (k.mono  Ah) ad) ?_;rintro ao a5 ⟨_,rfl,s⟩ ae l ap;have u:=s.Du hH c ae;refine Ar 2 Z<|A2 h fun af h=>Adx u af fun a6 ag=>Aw h fun a7 ah h=>Bf l (K4 _ _ (An l) ag ah) ?_;rintro aq a8 ⟨_,rfl,x⟩ ai y z;obtain⟨ax,y,z,m⟩:=x.take hH l ai;refine Ai (AT (fun _=>BM _))<|Ar 1 Z<|Af 1 Z y Z fun a9 o aa=>Ad<|Ay ?_
 cases h
 refine Bo (.tmp Z) (.cell Z Ajx Z AE.e (AG (i:=1) o Z)) ?_;have m:=m.mono (Aa aa);exact⟨o.ext,_,Z,(o.Iq hH (i:=0) Z m)⟩
def FG(a1:Int):Option ((List Int)):=
 AN (Bz (0 - 0)) (AN (Bz (a1 - (0 - 0))) (if 0<(a1 - (0 - 0)) then AN (0<(a1 - (0 - 0))/\(a1 - (0 - 0)) * 8<=281474976710656) (some (([]:List Int))) else some ([])))
def Hp(_a0:List Int)(a1:Int):Option ((List Int)):=
 if a1<0 then none else(FG a1)
theorem PG{a0:List Int}{a1:Int}(_:AJ (.int .i64) H Aac a0){r:(List Int)}(h:Hp a0 a1=some r):
  Qqv 124 [Aac,No a1] w (fun v w'=>∃ x,v=x/\Ck 3 (.int .i64) H w w' x r):=by
 refine A1 27 [(0,Aac),(1,No a1)] func124 Z fun hL=>AI 1 Z<|B2 Unit (fun(_:Unit)=>[(0,Aac),(1,No a1)]) (fun(_:Unit) wr=>Bb w [] wr/\(FG a1)=some r) ?_ ?_
 ·refine AI 2 Z<|AQ h ?_ ?_<;>intro y h
  ·refine Au ?_
   cases h
  refine Ax<|AA () ⟨hL,h⟩
 rintro _ ac ⟨d,h⟩;refine AB<|Bx 2 Z<|Ai (Abh Z)<|Ar 1 Z<|Ai (UQ Z)<|A2 h fun g h=>Ai (A7 g)<|A2 h fun j h=>Ai (A7 j)<|A8 1 Z<|AI 2 Z<|AQ h ?_ ?_<;>intro l h
 ·refine Au<|Ar 2 Z<|Ai (Abh Z)<|Ai Vc<|Ar 1 Z<|A2 h fun ab h=>?_;obtain⟨z,o⟩:=QxJ (show 0<=(a1 - (0 - 0)) by omega);refine Abi (k:=.i64) (m:=z) (by rw [<- o];rfl) AhD U U U fun f a c ad p q s t u=>Ar 1 Z<|Ai (UQ Z)<|Ai (Adz Z) ?_;obtain⟨b,aa⟩:=N2 (v:=.slice (some ⟨f,0,none⟩) 0 a) (e:=3) (sz:=1) (m:=0) (xs:=[]) d p ⟨Z,.inr ⟨f,a,c,Z,q,s,Qz5 _,t,by rw [u,Nat.mul_one],Z⟩⟩;refine Ar 1 Z<|AL<|As<|AI 2 Z<|Ay ?_
  cases h
  refine Al Z ⟨b.ext,_,Z,(b.Iq hH (i:=0) Z .nil)⟩
 refine Ax<|As<|AI 2 Z<|Ay ?_
 cases h
 refine Al Z ⟨d.ext,_,Z,Ck.nil⟩
def GB(a:List Int):Option ((List Int)):=
 some a
def BA(a0:List (List Int)):(List Int)×Int->Option (((List Int)×Int) ⊕ ((List Int))):=fun⟨b,a⟩=>
 if a<(a0.length:Int) then AN (0<=a/\a<(a0.length:Int)) (AN (Go.E.HK 8 (b.length+(a0.getD a.toNat Qq2).length)) (AN (Bz (a+1)) (some (Sum.inl ((b++a0.getD a.toNat Qq2),(a+1)))))) else Qq7 Sum.inr (GB b)
def EK(a0:List (List Int))(s:(List Int)×Int):Option ((List Int)):=Go.L.run (BA a0) s
def EL(a0:List (List Int))(a:Int):Option ((List Int)):=
 Qq4 (Hp ([]) a) (fun b=>(EK a0) (b,0))
def BB(a0:List (List Int)):Int×Int->Option ((Int×Int) ⊕ ((List Int))):=fun⟨b,a⟩=>
 if a<(a0.length:Int) then AN (0<=a/\a<(a0.length:Int)) (AN (Bz (b+((a0.getD a.toNat Qq2).length:Int))) (if(b+((a0.getD a.toNat Qq2).length:Int))<0 then none else AN (Bz (a+1)) (some (Sum.inl ((b+((a0.getD a.toNat Qq2).length:Int)),(a+1)))))) else Qq7 Sum.inr ((EL a0) b)
def GC(a0:List (List Int))(s:Int×Int):Option ((List Int)):=Go.L.run (BB a0) s
def EC(a0:List (List Int)):Option ((List Int)):=
 (GC a0) (0,0)
theorem OD{a0:List (List Int)}{e:Value}(o:AJ (.vec (.int .i64)) H e a0){r:(List Int)}(h:EC a0=some r):
  Qqv 75 [e] w (fun v w'=>∃ u0,v=u0/\Ck 3 (.int .i64) H w w' u0 r):=by
 refine A1 36 [(0,e)] func75 Z fun hL=>AI 1 Z<|AI 1 Z<|B2 Int (fun j=>[(0,e),(3,No j)]) (fun j wr=>Bb w [] wr/\(EL a0) j=some r) ?_ ?_
 ·refine Bx 1 Z<|Ai (Bm o)<|A8 1 Z<|A4 ?_;obtain⟨y,h⟩:=Ba h;refine B7 (Int×Int×Nat) (fun⟨c,b,n⟩=>[(0,e),(3,No c),(9,e),(10,No (a0.length:Int)),(11,No b)]) (fun⟨c,b,n⟩ wr=>Bb w [] wr/\Ia (BB a0) n (c,b)=some r) (fun⟨c,b,n⟩=>n) (0,0,y) Z ⟨hL,h⟩ ?_;rintro⟨c,b,nn42⟩ a7 ⟨s,h⟩;obtain⟨y,bb,rfl,h,z⟩:=AZ h;refine AI 1 Z<|AB<|AQ h ?_ ?_<;>intro al h
  ·refine Ax<|As<|AB<|A4<|Aj<|A2 h fun aa h=>Bi o b.toNat (GX aa) (AX aa) ?_;rintro bc _ ⟨e46v0,rfl,e46h0⟩ am;refine Ai (Bl am (hH.trans s.arg))<|A8 1 Z<|Bx 2 Z<|Ai (Bm e46h0)<|A2 h fun an h=>Ai (A7 an)<|A8 1 Z<|AI 2 Z<|AQ h ?_ ?_<;>intro ao h
   ·refine Au ?_
    cases h
   refine Ax<|A3<|As<|Au<|A2 h fun ap h=>Ai (A7 ap)<|Ar 1 Z<|AL ?_;have h:=Cf.again h z;refine AM (_,_,_) Z ⟨s,h⟩
  refine B4<|AF<|A5 ?_;have h:=Cf.out h z;refine Bg<|AA _ ⟨s,h⟩
 rintro j a8 ⟨t,h⟩;refine Bx 1 Z<|Aw h fun a4 aq h=>Bf t (PG _ _ (An t) (AJ.nil _ _) aq) ?_;rintro ah bd ⟨_,rfl,ab⟩ ar ac ai;obtain⟨au,ac,ai,av⟩:=ab.take hH t ar;refine A8 1 Z<|B2 ((List Int)×Value×(List Value)) (fun⟨q,p,k⟩=>[(6,p)]) (fun⟨q,p,k⟩ wr=>FX w [.row p 3 1 (q).length k] wr fun Oz=>AH (.int .i64) (gz H w wr Oz) q k/\GB q=some r) ?_ ?_
 ·refine Bx 1 Z<|Ai (Bm o)<|A8 1 Z<|A4 ?_;obtain⟨ad,h⟩:=Ba h;refine B7 ((List Int)×Int×Value×(List Value)×Nat) (fun⟨f,a,g,d,n⟩=>[(6,g),(25,e),(26,No (a0.length:Int)),(27,No a)]) (fun⟨f,a,g,d,n⟩ wr=>FX w [.row g 3 1 (f).length d] wr fun Oz=>AH (.int .i64) (gz H w wr Oz) f d/\Ia (BA a0) n (f,a)=some r) (fun⟨f,a,g,d,n⟩=>n) (a4,0,ah,au,ad) Z ⟨ac,av,h⟩ ?_;rintro⟨f,a,g,d,nn92⟩ a9 ⟨u,x,h⟩;obtain⟨ad,be,rfl,h,ae⟩:=AZ h;refine AI 1 Z<|AB<|AQ h ?_ ?_<;>intro aw h
  ·refine Ax<|As<|AB<|A4<|Aj<|A2 h fun af h=>Bi o a.toNat (GX af) (AX af) ?_;rintro bf _ ⟨e96v0,rfl,e96h0⟩ ax;refine Ai (Bl ax (hH.trans u.arg))<|A8 1 Z<|Au<|Ar 2 Z<|A2 h fun ay h=>Bt (r:=(.int .i64)) 0 f (a0.getD a.toNat Qq2) Z AhD u Z x (e96h0.mono  Ah) ay fun a5 bg az a1 a6 a2=>Ar 1 Z<|AL<|A3<|As<|Au<|A2 h fun aj h=>Ai (A7 aj)<|Ar 1 Z<|AL ?_;have h:=Cf.again h ae;refine AM (_,_,_,_,_) Z ⟨a1,a2,h⟩
  refine B4<|AF<|A5 ?_;have h:=Cf.out h ae;refine Bg<|AA (_,_,_) ⟨u,x,h⟩
 rintro⟨q,p,k⟩ ba ⟨ag,ak,h⟩;refine AI 2 Z<|Ay ?_
 cases h
 refine Al Z ⟨ag.ext,_,Z,(ag.Iq hH (i:=0) Z ak)⟩
def K1(a b:Int):Option (Akd×(Int×Int)):=
 some (([],[],[]),(a,b))
def Jb(b:List Int):Option (Akd×(Int×Int)):=
 Qq4 (E1 b) (fun a=>some ((a.1.1,a.1.2.1,a.1.2.2),(0,0)))
def FH(a0:AaV)(b:(List Int)):(List Int)×Int->Option (((List Int)×Int) ⊕ (Akd×(Int×Int))):=fun⟨c,a⟩=>
 if a<(b.length:Int) then AN (0<=a/\a<(b.length:Int)) (if b.getD a.toNat Qq2=0 then AN (Go.E.HK 8 (c.length+([(-1)]).length)) (AN (Bz (a+1)) (some (Sum.inl ((c++[(-1)]),(a+1))))) else AN (Bz (b.getD a.toNat Qq2 - 1)) (AN (0<=(b.getD a.toNat Qq2 - 1)/\(b.getD a.toNat Qq2 - 1)<(a0.length:Int)) (AN (Go.E.HK 8 (c.length+([((a0.getD ((b.getD a.toNat Qq2 - 1).toNat) Qq2).toNat:Int)]).length)) (AN (Bz (a+1)) (some (Sum.inl ((c++[((a0.getD ((b.getD a.toNat Qq2 - 1).toNat) Qq2).toNat:Int)]),(a+1)))))))) else Qq7 Sum.inr (Jb c)
def MG(a0:AaV)(a:(List Int))(s:(List Int)×Int):Option (Akd×(Int×Int)):=Go.L.run (FH a0 a) s
def JC(a0:AaV):Option (Akd×(Int×Int)):=
 Qq4 (K0 a0) (fun a=>if a.2.1=0/\a.2.2=0 then AN (Bz ((a0.length:Int)+1)) (AN (0<=((a0.length:Int)+1)/\((8:Nat):Int) * ((a0.length:Int)+1)<=281474976710656/\((a0.length:Int)+1)<=9223372036854775807) (Qq4 (EC ([[(a0.length:Int)],a.1])) (fun b=>(MG a0 b) (([]:List Int),0)))) else K1 a.2.1 a.2.2)
theorem T1{a0:AaV}{ac:Value}(ad:AJ .byte H ac a0){r:Akd×(Int×Int)}(h:JC a0=some r):
  Qqv 45 [ac] w (fun v w'=>∃ u0 u1 u2,v=.tuple #[.agg #[u0,u1,u2],.agg #[No r.2.1,No r.2.2]]/\AJ (.int .i64) (un H (nw w w')) u0 (r.1.1)/\AJ (.int .i64) (un H (nw w w')) u1 (r.1.2.1)/\AJ (.int .i64) (un H (nw w w')) u2 (r.1.2.2)):=by
 refine A1 58 [(0,ac)] func45 Z fun hL=>Aj<|A9 G8.e Z hL fun w1 b1 cy de _=>A9 AE.e Z cy fun w2 b2 a7 df _=>Ad<|Bx 1 Z<|Aw h fun s cz h=>Bf a7 (Uw _ _ (An a7) (ad.mono  Ah) cz) ?_;rintro _ w4 ⟨dg,rfl,bi⟩ c0 c2 dh;have t:=bi.Du hH a7 c0;refine Ar 3 Z<|A9 AE.e Z c2 fun w5 b5 c3 cg _=>Ar 1 Z<|Af 0 Z c3 Z fun w6 a9 ch=>Ad<|AB<|Aj<|Ai (Az 0 Z AE.e a9 Z)<|Ai (AT (fun _=>BM _))<|Ai (JO Jh (Nc _ _ _ _))<|Ad<|CX h ?_ ?_<;>intro c4 h
 ·refine B2 (Int×Int) (fun⟨ax,ay⟩=>[(2,(Aad b1)),(3,(Aad b2))]) (fun⟨ax,ay⟩ wr=>Bb w [.box b5 [No s.2.1,No s.2.2] 28,.box b2 [No ax,No ay] 28,.box b1 [Aac,Aac,Aac] 98] wr/\K1 ax ay=some r) ?_ ?_
  ·refine J7 (NP (Tl MP)) (fun z0 z=>Le (gz H w z0 [.box b5 [No s.2.1,No s.2.2] 28,.box b2 [No 0,No 0] 28,.box b1 [Aac,Aac,Aac] 98]) (hp z)/\z.heap[b5]? = some (.cells [No s.2.1,No s.2.2].toArray 28 (0,0))/\z.heap[b2]? = some (.cells [No 0,No 0].toArray 28 (0,0))) mixed Z (fun ba d4 ci=>?_);have x:=a9.call ci;have ae:=x.rG H;refine MQ ⟨ae.trans (An x),x.at (i:=0) Z,x.at (i:=1) Z⟩ fun kI27=>A6 0 ba kI27 Z (fun _ _=>AT (fun _=>Aby _)) Z<|A6 1 ba kI27 Z (fun _ hI=>LM hI.2.1) Z<|FY 2 Z<|Af 2 Z x Z ?_;intro d5 af bj;have ae:=ae.trans (Aa bj);refine AV ⟨ae.trans (An af),af.at (i:=0) Z,af.at (i:=1) Z⟩ fun kI29=>FY 3 Z<|Af 1 Z af Z fun d6 cj da=>G7<|EF<|AA (_,_) ⟨cj,h⟩
  rintro⟨ax,ay⟩ dj ⟨au,h⟩;refine Ay<|Aq ?_
  cases h
  refine Bo (.cell Z AjR Z G8.e (AG (i:=2) au Z)) (.cell Z Ajx Z AE.e (AG (i:=1) au Z)) ⟨au.ext,_,_,_,Z,(AJ.nil _ _),(AJ.nil _ _),(AJ.nil _ _)⟩
 refine Ax<|As<|Bx 1 Z<|Ai (Bm ad)<|A2 h fun ck h=>Ai (A7 ck)<|A2 h fun cl h=>AfT (H:=H) (r:=(.int .i64)) AhD CR.e a9 cl fun c5 d7 cm cn bk av=>A8 1 Z<|B2 ((List Int)×Value×(List Value)) (fun⟨an,ag,u⟩=>[(2,(Aad b1)),(3,(Aad b2)),(6,ag)]) (fun⟨an,ag,u⟩ wr=>FX w [.row ag 3 1 (an).length u,.box b5 [No s.2.1,No s.2.2] 28,.box b2 [No 0,No 0] 28,.box b1 [Aac,Aac,Aac] 98] wr fun Oz=>AH (.int .i64) (gz H w wr Oz) an u/\Jb an=some r) ?_ ?_
 ·refine Bx 1 Z<|Ai (Bm ad)<|B9 [(a0.length:Int)] (r:=(.int .i64)) (fun _=>Jn _ _) cn (.c1 Z .nil) fun d8 d9 dk co az bb=>Ar 1 Z ?_;have t:=t.mono (Aa (cg.trans (ch.trans (bk.trans az))));refine B9 ([[(a0.length:Int)],s.1]) (r:=(.vec (.int .i64))) (fun _=>Aea _ bb.one _ t.one _) (hlen:=(BI 2)) co (.c1 ⟨_,Z,bb⟩ (.c1 ⟨_,Z,t⟩ .nil)) fun ea eb dl aw bl cp=>Aw h fun y cq h=>Bf aw (OD _ _ (An aw) cp cq) ?_;rintro a1 ec ⟨_,rfl,bc⟩ cr cs bm;have ao:=bc.Du hH aw cr;refine Ai (Bm ao)<|A8 1 Z<|A4 ?_;obtain⟨ah,h⟩:=Ba h;have av:=av.mono (Aa (az.trans (bl.trans bm)))
  refine B7 ((List Int)×Int×Value×(List Value)×Nat) (fun⟨c,a,o,f,n⟩=>[(0,ac),(2,(Aad b1)),(3,(Aad b2)),(6,o),(30,a1),(31,No (y.length:Int)),(32,No a)]) (fun⟨c,a,o,f,n⟩ wr=>FX w [.row o 3 1 (c).length f,.box b5 [No s.2.1,No s.2.2] 28,.box b2 [No 0,No 0] 28,.box b1 [Aac,Aac,Aac] 98] wr fun Oz=>AJ (.int .i64) (gz H w wr Oz) a1 y/\AH (.int .i64) (gz H w wr Oz) c f/\Ia (FH a0 y) n (c,a)=some r) (fun⟨c,a,o,f,n⟩=>n) (([]:List Int),0,c5,cm,ah) Z ⟨cs,ao,av,h⟩ ?_;rintro⟨c,a,o,f,nn113⟩ db ⟨p,b,d,h⟩;obtain⟨ah,dm,rfl,h,ai⟩:=AZ h;refine AI 1 Z<|AB<|AQ h ?_ ?_<;>intro bn h
  ·refine Ax<|As<|AB<|A4<|Aj<|A2 h fun a2 h=>Bi b a.toNat (GX a2) (AX a2) ?_;rintro dn _ rfl bo;refine Ai (Bl bo (An p))<|A8 1 Z<|AI 2 Z<|AQ h ?_ ?_<;>intro bp h
   ·refine Au<|Ar 1 Z<|B9 [(-1)] (r:=(.int .i64)) (fun _=>Jn _ _) p (.c1 Z .nil) fun dp dq dc bq ap br=>A2 h fun bs h=>?_;have d:=d.mono (Aa ap);refine Bt (r:=(.int .i64)) 0 c [(-1)] Z AhD bq Z d br bs fun ct dr bt bu bd bv=>Ar 1 Z<|AL<|A3<|As<|Au<|A2 h fun bw h=>Ai (A7 bw)<|Ar 1 Z<|AL ?_;have h:=Cf.again h ai;have b:=b.mono (Aa (ap.trans bd));refine AM (_,_,_,_,_) Z ⟨bu,b,bv,h⟩
   refine Au<|Ar 3 Z<|A2 h fun bx h=>Ai (A7 bx)<|A2 h fun a3 h=>Bi ad ((y.getD a.toNat Qq2 - 1).toNat) (GX a3) (AX a3) ?_;rintro ds _ rfl bz;refine Ai (Bl bz (hH.trans p.arg))<|Ai (Lm (Rc _))<|B9 [((a0.getD ((y.getD a.toNat Qq2 - 1).toNat) Qq2).toNat:Int)] (r:=(.int .i64)) (fun _=>Jn _ _) p (.c1 Z .nil) fun dt du dd b0 aq b3=>A2 h fun b4 h=>?_;have d:=d.mono (Aa aq);refine Bt (r:=(.int .i64)) 0 c [((a0.getD ((y.getD a.toNat Qq2 - 1).toNat) Qq2).toNat:Int)] Z AhD b0 Z d b3 b4 fun cu dv b6 b7 be b8=>Ar 1 Z<|AL<|A3<|As<|Au<|A2 h fun b9 h=>Ai (A7 b9)<|Ar 1 Z<|AL ?_;have h:=Cf.again h ai;have b:=b.mono (Aa (aq.trans be))
   refine AM (_,_,_,_,_) Z ⟨b7,b,b8,h⟩
  refine B4<|AF<|A5 ?_;have h:=Cf.out h ai;refine Bg<|AA (_,_,_) ⟨p,d,h⟩
 rintro⟨an,ag,u⟩ dw ⟨bf,ca,h⟩;refine Bx 1 Z ?_;have cb:=bf.Du hH (i:=0) Z ca;have q:=bf.AS (i:=0) Z;refine Aw h fun dx cc h=>Bf q (PF _ _ (An q) cb cc) ?_;rintro _ dy ⟨c6,c7,c8,rfl,a4,a5,a6⟩ aj cd c9;have g:=a4.mono (Dt q aj);have j:=a5.Du hH q aj;have k:=a6.Du hH q aj;refine Ar 3 Z<|A9 G8.e Z cd fun dz d0 ce aa _=>Af 0 Z ce Z (a:=(Bk g.one (Bk j.one (Bk k.one Kq)))) fun d1 ak ab=>A8 1 Z ?_;have e:=ak.rG H;refine Aj<|Ai (Az 0 Z G8.e ak Z)<|Ai (AT (fun _=>BM _)) ?_;have g:=g.mono (Aa (aa.trans ab));have j:=j.mono (Aa (aa.trans ab));have k:=k.mono (Aa (aa.trans ab));refine Af 3 Z ak Z (a:=(Bk (g.mono e).one (Bk (j.mono e).one (Bk (k.mono e).one Kq)))) fun d2 cf bg=>Af 2 Z cf Z fun d3 al bh=>Ad<|Ay ?_
 cases h
 refine Bo (.cell Z AjR Z G8.e (AG (i:=3) al Z)) (.cell Z Ajx Z AE.e (AG (i:=2) al Z)) ?_;have e:=e.trans (Aa (bg.trans bh));exact⟨al.ext,_,_,_,Z,((g.mono e).mono  EE),((j.mono e).mono  EE),((k.mono e).mono  EE)⟩
end
end Go.Proofs.YtekmbcbgknmhiaaGreatDoor
end
noncomputable section
namespace Go
abbrev Ako:=Go.E.Rp.pair (Go.E.Rp.vec (Go.E.Rp.int .i64)) (Go.E.Rp.pair (Go.E.Rp.vec (Go.E.Rp.int .i64)) (Go.E.Rp.vec (Go.E.Rp.int .i64)))
end Go
namespace Go
abbrev Akg:=(Int×Akc)×(Int×Akb)×(List Akd)
end Go
namespace Go.Proofs.YtekmbcbgknmhiaaGreatDoor
open Go Go.E Go.RowKit Go.L
set_option maxHeartbeats 1000000
set_option maxRecDepth 10000
open _root_.Go.Proofs.Tryz
def J4(a:Int)(b:List Akd)(c:List Pv)(d:List AaV):Option (((List Pv)×(List AaV)×(List Akd)×Int) ⊕ (Akg×(Int×Int))):=
 AN (Bz (a+1)) (some (Sum.inl (c,d,b,(a+1))))
def Ei(h:List Akd)(b c d:Int)(e:List (AaV×Ake))(f:Int)(g:List Akk):Option (Akg×(Int×Int)):=
 if b=0/\c=0 then some (((d,e),(f,g),h),(0,0)) else Qq4 (Cn (14:Int) (-1:Int)) (fun a=>some (((0,[]),(0,[]),[]),(a.1,a.2)))
def ER(d:List Pv)(e:List AaV)(c:List Akd):Option (Akg×(Int×Int)):=
 Qq4 (Jj e) (fun a=>if a.2.1=0/\a.2.2=0 then Qq4 (Kt d) (fun b=>(Ei c) b.2.1 b.2.2 a.1.1 a.1.2 b.1.1 b.1.2) else(Ei c) a.2.1 a.2.2 a.1.1 a.1.2 (0:Int) ([]))
def Dl(a0:List (AaV×Pv)):(List Pv)×(List AaV)×(List Akd)×Int->Option (((List Pv)×(List AaV)×(List Akd)×Int) ⊕ (Akg×(Int×Int))):=fun⟨c,d,e,a⟩=>
 if a<(a0.length:Int) then AN (0<=a/\a<(a0.length:Int)) (Qq4 (JC ((a0.getD a.toNat Qq2).1)) (fun b=>if b.2.1=0/\b.2.2=0 then Qq4 (EI ((a0.getD a.toNat Qq2).2)) (fun f=>if f.1=0/\f.2=0 then AN (Go.E.HK 72 (e.length+([(b.1.1,b.1.2.1,b.1.2.2)]).length)) (AN (Go.E.HK 24 (d.length+([(a0.getD a.toNat Qq2).1]).length)) (AN (Go.E.HK 88 (c.length+([((a0.getD a.toNat Qq2).2)]).length)) ((J4 a) (e++[(b.1.1,b.1.2.1,b.1.2.2)]) (c++[((a0.getD a.toNat Qq2).2)]) (d++[(a0.getD a.toNat Qq2).1])))) else Qq4 (Cn f.1 a) (fun g=>Qq7 Sum.inr (some (((0,[]),(0,[]),[]),(g.1,g.2))))) else Qq4 (Cn b.2.1 a) (fun h=>Qq7 Sum.inr (some (((0,[]),(0,[]),[]),(h.1,h.2)))))) else Qq7 Sum.inr (ER c d e)
def J5(a0:List (AaV×Pv))(s:(List Pv)×(List AaV)×(List Akd)×Int):Option (Akg×(Int×Int)):=Go.L.run (Dl a0) s
def Jr(a0:List (AaV×Pv)):Option (Akg×(Int×Int)):=
 if 64<(a0.length:Int) then Qq4 (Cn (2:Int) (-1:Int)) (fun a=>some (((0,[]),(0,[]),[]),(a.1,a.2))) else(J5 a0) (([]:List Pv),([]:List AaV),([]:List Akd),0)
section
variable(w:World)(H:PH)(hH:Le H (hp w)) include hH
theorem PY(hU:Gq H){a0:List (AaV×Pv)}{e3:Value}(iv:AJ (.pair (.vec .byte) .tree) H e3 a0){r:Akg×(Int×Int)}(h:Jr a0=some r):
  Qqv 20 [e3] w (fun v w'=>∃ u0 u1 u2,v=.tuple #[.agg #[No r.1.1.1,u0,No r.1.2.1.1,u1,u2],.agg #[No r.2.1,No r.2.2]]/\AJ (.pair .st (.vec Akp)) (un H (nw w w')) u0 (r.1.1.2)/\AJ Akn (un H (nw w w')) u1 (r.1.2.1.2)/\Ck 98 Ako H w w' u2 (r.1.2.2)):=by
 refine A1 89 [(0,e3)] func20 Z fun hL=>Aj<|A9 Lp.e Z hL fun w1 b1 oc p3 _=>A9 AE.e Z oc fun w2 b2 ji p4 _=>Ad<|AB<|Bx 1 Z<|Ai (Bm iv)<|A8 1 Z<|AQ h ?_ ?_<;>intro od h
 ·refine Aj<|Ai (AT (fun _=>U7 _))<|Aw h fun x5 oe h=>AD ji (CE _ _ (An ji) oe) fun w6 tw og p5=>Af 1 Z og Z fun w7 oh p6=>Af 0 Z oh Z fun w8 jj p7=>Ad<|Ay<|Aq ?_
  cases h
  refine Bo (.cell Z AjU Z Lp.e (AG (i:=1) jj Z)) (.cell Z Ajx Z AE.e (AG (i:=0) jj Z)) ⟨jj.ext,_,_,_,Z,(AJ.nil _ _),(AJ.nil _ _),Ck.nil⟩
 refine Ax<|As<|Aj<|A9 Lp.e Z ji fun tx ch mv os _=>Ad<|Bx 1 Z ?_;obtain⟨mw,ot,iw⟩:=DI (.vec .byte) H 23 mv;refine Ad<|Bx 1 Z ?_;obtain⟨mx,kf,ix⟩:=DI .tree H 64 mw;refine Ad<|B2 ((List Pv)×(List AaV)×(List Akd)×Value×(List Value)×Value×(List Value)×Value×(List Value)) (fun⟨e4,e5,a8,ep,ci,eq,cj,bg,a3⟩=>[(2,(Aad b1)),(3,(Aad b2)),(4,(Aad ch)),(5,eq),(6,ep)]) (fun⟨e4,e5,a8,ep,ci,eq,cj,bg,a3⟩ wr=>FX w [.row bg 98 3 (a8).length a3,.row ep 64 5 (e4).length ci,.row eq 23 1 (e5).length cj,.box ch [No 0,Aac,No 0,Aac,bg] 52,.box b2 [No 0,No 0] 28,.box b1 [No 0,Aac,No 0,Aac,Aac] 52] wr fun Oz=>AH Ako (gz H w wr Oz) a8 a3/\AH .tree (gz H w wr Oz) e4 ci/\AH (.vec .byte) (gz H w wr Oz) e5 cj/\ER e4 e5 a8=some r) ?_ ?_
 ·refine Bx 1 Z<|Ai (Bm iv)<|A8 1 Z<|A4 ?_;obtain⟨kg,ij,kh⟩:=DI Ako H 98 mx;obtain⟨iy,h⟩:=Ba h;have iw:=iw.mono (Aa (kf.trans ij));have ix:=ix.mono (Aa ij)
  refine B7 ((List Pv)×(List AaV)×(List Akd)×Int×Value×(List Value)×Value×(List Value)×Value×(List Value)×Nat) (fun⟨x,y,aa,b,a4,av,a5,aw,ap,ax,n⟩=>[(2,(Aad b1)),(3,(Aad b2)),(4,(Aad ch)),(5,a5),(6,a4),(18,e3),(19,No (a0.length:Int)),(20,No b)]) (fun⟨x,y,aa,b,a4,av,a5,aw,ap,ax,n⟩ wr=>FX w [.row ap 98 3 (aa).length ax,.row a4 64 5 (x).length av,.row a5 23 1 (y).length aw,.box ch [No 0,Aac,No 0,Aac,ap] 52,.box b2 [No 0,No 0] 28,.box b1 [No 0,Aac,No 0,Aac,Aac] 52] wr fun Oz=>AH Ako (gz H w wr Oz) aa ax/\AH .tree (gz H w wr Oz) x av/\AH (.vec .byte) (gz H w wr Oz) y aw/\Ia (Dl a0) n (x,y,aa,b)=some r) (fun⟨x,y,aa,b,a4,av,a5,aw,ap,ax,n⟩=>n) (([]:List Pv),([]:List AaV),([]:List Akd),0,Aac,[],Aac,[],Aac,[],iy) Z ⟨kg,kh,ix,iw,h⟩ ?_
  rintro⟨x,y,aa,b,a4,av,a5,aw,ap,ax,nn640⟩ ou ⟨er,ai,ae,af,h⟩;obtain⟨iy,my,rfl,h,es⟩:=AZ h;have e:=er.rG H;refine AI 1 Z<|AB<|AQ h ?_ ?_<;>intro ki h
  ·refine Ax<|As<|AB<|A4<|Bx 1 Z<|A2 h fun i4 h=>Bi iv b.toNat (GX i4) (AX i4) ?_;rintro p8 _ ⟨_,_,rfl,⟨e646v0,rfl,e646h0⟩,e646t1⟩ kj;obtain⟨_,_,rfl,rfl,⟨_,_,rfl,rfl,⟨_,_,rfl,⟨e646v3,rfl,e646h3⟩,⟨_,_,rfl,⟨e646v4,rfl,e646h4⟩,⟨e646v5,rfl,e646h5⟩⟩⟩⟩⟩:=Go.E.Rp.OS e646t1;refine Ai (Cz kj (hH.trans er.arg))<|A9 Agf.e Z er fun p9 iz kk aj _=>Ar 1 Z<|Af 0 Z kk Z (a:=(Bk e646h0.one (Bk Z (Bk Z (Bk e646h3.one (Bk e646h4.one (Bk e646h5.one Kq))))))) fun qa bh ak=>Ad<|Aj<|Ai (Ae Z AjV Z IF.e)<|Ai (Ag 0 Z bh Z)<|Aw h fun d kl h=>Bf bh (T1 _ _ (An bh) (e646h0.mono  Ah) kl) ?_;rintro _ qb ⟨ck,cl,cm,rfl,jb,jc,jd⟩ gy km al;have g:=jb.mono (Dt bh gy);have k:=jc.mono (Dt bh gy);have o:=jd.mono (Dt bh gy);refine Ar 3 Z<|A9 G8.e Z km fun qc i0 kn p _=>A9 AE.e Z kn ?_;intro qd jk ko q _
   refine Af 1 Z ko Z (a:=(Bk g.one (Bk k.one (Bk o.one Kq)))) fun qe kp t=>Af 0 Z kp Z fun qf a1 u=>Ad<|AB ?_;have c:=a1.rG H;refine Aj<|Ai (Az 0 Z AE.e a1 Z)<|Ai (AT (fun _=>BM _))<|Ai (JO Jh (Nc _ _ _ _))<|Ad<|CX h ?_ ?_<;>intro kq h
   ·refine Aj<|Ai (AT (fun _=>U7 _))<|Ai (Ae Z Ajx Z CR.e)<|Ai (Ag 0 Z a1 Z)<|Ar 1 Z<|Aw h fun qg kr h=>AD a1 (CE _ _ (An a1) kr) fun qh ov ks oi=>Af 8 Z ks Z fun qi kt oj=>Af 7 Z kt Z fun qj g0 ok=>Ad<|Ay<|Aq<|Av<|Aq<|BJ ?_;have h:=Cf.out h es;refine Av<|Bs ?_
    cases h
    refine Bo (.cell Z AjU Z Lp.e (AG (i:=8) g0 Z)) (.cell Z Ajx Z AE.e (AG (i:=7) g0 Z)) ⟨g0.ext,_,_,_,Z,(AJ.nil _ _),(AJ.nil _ _),Ck.nil⟩
   refine Ax<|As<|AB<|Aj<|Ai (Ae Z AjV Z HP.e)<|Ai (KG 2 5 Z HP.e a1 Z Z)<|Aw h fun g1 ku h=>AD a1 (Ot (a0:=((a0.getD b.toNat Qq2).2)) _ _ (An a1) (e646h3.mono  Ah) (e646h4.mono  Ah) (e646h5.mono  Ah) ku) fun qk ow kv a9=>A9 AE.e Z kv fun ql jl kw ba _=>Af 0 Z kw Z fun qm bi bb=>Ad<|Aj<|Ai (Az 0 Z AE.e bi Z)<|Ai (AT (fun _=>BM _))<|Ai (JO Jh (Nc _ _ _ _))<|Ad<|CX h ?_ ?_<;>intro kx h
   ·refine Aj<|Ai (AT (fun _=>U7 _))<|Ai (Ae Z Ajx Z CR.e)<|Ai (Ag 0 Z bi Z)<|Ar 1 Z<|Aw h fun qn ky h=>AD bi (CE _ _ (An bi) ky) fun qo ox kz ol=>Af 9 Z kz Z fun qp k0 om=>Af 8 Z k0 Z fun qq g2 oo=>Ad<|Ay<|Aq<|Av<|Aq<|BJ ?_;have h:=Cf.out h es;refine Av<|Bs ?_
    cases h
    refine Bo (.cell Z AjU Z Lp.e (AG (i:=9) g2 Z)) (.cell Z Ajx Z AE.e (AG (i:=8) g2 Z)) ⟨g2.ext,_,_,_,Z,(AJ.nil _ _),(AJ.nil _ _),Ck.nil⟩
   refine Ax<|As ?_
   refine Aif (σ:=(List Akd)×(List Pv)×(List AaV)×Value×(List Value)×Value×(List Value)×Value×(List Value)) (fun⟨ek,el,em,cn,bc,co,bd,cp,be⟩=>[(2,(Aad b1)),(3,(Aad b2)),(4,(Aad ch)),(5,cp),(6,co),(18,e3),(19,No (a0.length:Int)),(20,No b)]) (fun⟨ek,el,em,cn,bc,co,bd,cp,be⟩ wr=>FX w [.box jl [No g1.1,No g1.2] 28,.box jk [No d.2.1,No d.2.2] 28,.box i0 [ck,cl,cm] 98,.box iz [e646v0,No (((a0.getD b.toNat Qq2).2).f.1),No (((a0.getD b.toNat Qq2).2).f.2.1),e646v3,e646v4,e646v5] 66,.row cn 98 3 (ek).length bc,.row co 64 5 (el).length bd,.row cp 23 1 (em).length be,.box ch [No 0,Aac,No 0,Aac,cn] 52,.box b2 [No 0,No 0] 28,.box b1 [No 0,Aac,No 0,Aac,Aac] 52] wr fun Oz=>AJ (.int .i64) (gz H w wr Oz) ck (d.1.1)/\AJ (.int .i64) (gz H w wr Oz) cl (d.1.2.1)/\AJ (.int .i64) (gz H w wr Oz) cm (d.1.2.2)/\AH Ako (gz H w wr Oz) ek bc/\AH .tree (gz H w wr Oz) el bd/\AH (.vec .byte) (gz H w wr Oz) em be/\(J4 b) ek el em=some my) ?_ ?_
   ·refine J7 (NP (Jz (Tl (Su (Jz (NP MP)))))) (fun z0 z=>Le (gz H w z0 [.box jl [No g1.1,No g1.2] 28,.box jk [No d.2.1,No d.2.2] 28,.box i0 [ck,cl,cm] 98,.box iz [e646v0,No (((a0.getD b.toNat Qq2).2).f.1),No (((a0.getD b.toNat Qq2).2).f.2.1),e646v3,e646v4,e646v5] 66,.row ap 98 3 (aa).length ax,.row a4 64 5 (x).length av,.row a5 23 1 (y).length aw,.box ch [No 0,Aac,No 0,Aac,ap] 52,.box b2 [No 0,No 0] 28,.box b1 [No 0,Aac,No 0,Aac,Aac] 52]) (hp z)/\z.heap[i0]? = some (.cells [ck,cl,cm].toArray 98 (0,0))/\z.heap[iz]? = some (.cells [e646v0,No (((a0.getD b.toNat Qq2).2).f.1),No (((a0.getD b.toNat Qq2).2).f.2.1),e646v3,e646v4,e646v5].toArray 66 (0,0))/\z.heap[ch]? = some (.cells [No 0,Aac,No 0,Aac,ap].toArray 52 (0,0))) mixed Z (fun ad qs i5=>?_);have a2:=bi.call i5;have bf:=AR bi i5;have a:=a2.rG H;refine MQ ⟨a.trans (An a2),a2.at (i:=2) Z,a2.at (i:=3) Z,a2.at (i:=7) Z⟩ fun kI840=>?_
    refine A6 0 ad kI840 Z (fun _ _=>Ae Z AjU Z Lo.e) Z<|A6 1 ad kI840 Z (fun _ hI=>KK Z hI.2.2.2 Z) Z<|A6 2 ad kI840 Z (fun _ hI=>LM hI.2.1) Z<|A6 5 ad kI840 Z (fun _ _=>Am Z) Z<|A6 6 ad kI840 Z (fun _ _=>Ae Z AjV Z IF.e) Z<|A6 7 ad kI840 Z (fun _ hI=>KK Z hI.2.2.1 Z) Z<|A6 10 ad kI840 Z (fun _ _=>Am Z) Z<|A6 11 ad kI840 Z (fun _ _=>Ae Z AjV Z HP.e) Z<|A6 12 ad kI840 Z (fun _ hI=>AdQ 5 Z HP.e hI.2.2.1 Z) Z<|NI3 (i:=3) (j:=8) (s:=13) Z Qqb Z Z ?_ ?_ ?_
    ·have g:=g.mono (Aa (p.trans (q.trans (t.trans u))));have k:=k.mono (Aa (p.trans (q.trans (t.trans u))));have o:=o.mono (Aa (p.trans (q.trans (t.trans u))));have c:=c.trans (Aa (a9.trans (ba.trans (bb.trans bf))));refine B9 [(d.1.1,d.1.2.1,d.1.2.2)] (r:=Ako) (fun _=>S2 _ _ _ _) a2 (.c3 ⟨_,_,Z,⟨_,Z,((g.mono c).mono a)⟩,⟨_,_,Z,⟨_,Z,((k.mono c).mono a)⟩,⟨_,Z,((o.mono c).mono a)⟩⟩⟩ .nil) ?_;intro qt qu oy a6 jm am;have a:=a.trans (Aa jm);refine AV ⟨a.trans (An a6),a6.at (i:=2) Z,a6.at (i:=3) Z,a6.at (i:=7) Z⟩ fun kI842=>NI3 (i:=4) (j:=8) (s:=13) Z Qqb Z Z ?_ ?_ ?_
     ·refine A2 h fun ah h=>?_;have e:=e.trans (Aa (aj.trans (ak.trans (al.trans (p.trans (q.trans (t.trans u)))))));refine Bt (r:=Ako) 4 aa [(d.1.1,d.1.2.1,d.1.2.2)] Z AjW a6 Z (((ai.mono e).mono c).mono a) am ah ?_;intro i1 qv g3 bj jn aq;have a:=a.trans (Aa jn);refine AV ⟨a.trans (An bj),bj.at (i:=2) Z,bj.at (i:=3) Z,bj.at (i:=7) Z⟩ fun kI845=>A6 15 ad kI845 Z (fun _ _=>Ae Z AjU Z Lo.e) Z<|NI2 8 13 Z Z ?_ ?_
      ·refine B9 [(a0.getD b.toNat Qq2).1] (r:=(.vec .byte)) (fun _=>N6 _ e646h0.one _) bj (.c1 ⟨_,Z,(e646h0.mono  Ah)⟩ .nil) ?_;intro qw qx oz bk e6 et;have a:=a.trans (Aa e6);refine AV ⟨a.trans (An bk),bk.at (i:=2) Z,bk.at (i:=3) Z,bk.at (i:=7) Z⟩ fun kI847=>NI2 9 13 Z Z ?_ ?_
       ·refine A2 h fun ab h=>Bt (r:=(.vec .byte)) 6 y [(a0.getD b.toNat Qq2).1] Z AjB bk Z (((af.mono e).mono c).mono a) et ab ?_;intro mz qy k1 cq ik g4;have a:=a.trans (Aa ik);refine AV ⟨a.trans (An cq),cq.at (i:=2) Z,cq.at (i:=3) Z,cq.at (i:=7) Z⟩ fun kI850=>FY 13 Z<|B9 [((a0.getD b.toNat Qq2).2)] (r:=.tree) (fun _=>La _ _ _ _ _ _) cq (.c5 (Go.E.Rp.ET ⟨_,_,Z,Z,⟨_,_,Z,Z,⟨_,_,Z,⟨_,Z,(e646h3.mono  Ah)⟩,⟨_,_,Z,⟨_,Z,(e646h4.mono  Ah)⟩,⟨_,Z,(e646h5.mono  Ah)⟩⟩⟩⟩⟩) .nil) ?_;intro qz q0 o0 cr e7 k2;have a:=a.trans (Aa e7);refine AV ⟨a.trans (An cr),cr.at (i:=2) Z,cr.at (i:=3) Z,cr.at (i:=7) Z⟩ fun kI852=>FY 14 Z<|A2 h fun ac h=>Bt (r:=.tree) 5 x [((a0.getD b.toNat Qq2).2)] Z Aj9 cr Z (((ae.mono e).mono c).mono a) k2 ac ?_;intro m0 q1 k3 bl e8 g5;have a:=a.trans (Aa e8)
        refine AV ⟨a.trans (An bl),bl.at (i:=2) Z,bl.at (i:=3) Z,bl.at (i:=7) Z⟩ fun kI855=>FY 16 Z<|B5 7 Z (row_one (bl.at (i:=4) Z)) bl Z Z fun q2 k4 cs=>DA [0,1,2,3,4,5,6,7,8,9,10,11,12,13,14,15]<|FY 17 Z<|Ar 1 Z<|DA [0,1,2,3,4,5,6,7,8,9,10,11,12,13,14,15,16]<|FY 18 Z<|Ar 1 Z<|G7<|EF ?_;have aq:=aq.mono (Aa (e6.trans (ik.trans (e7.trans (e8.trans cs)))));have g4:=g4.mono (Aa (e7.trans (e8.trans cs)));have g5:=g5.mono (Aa cs);have a:=a.trans (Aa cs);refine AA ((aa++[(d.1.1,d.1.2.1,d.1.2.2)]),(x++[((a0.getD b.toNat Qq2).2)]),(y++[(a0.getD b.toNat Qq2).1]),i1,g3,m0,k3,mz,k1) ⟨k4,((g.mono c).mono a),((k.mono c).mono a),((o.mono c).mono a),aq,g5,g4,h⟩
       refine A2 h fun ab h=>A2 h fun ac h=>B9 [((a0.getD b.toNat Qq2).2)] (r:=.tree) (fun _=>La _ _ _ _ _ _) bk (.c5 (Go.E.Rp.ET ⟨_,_,Z,Z,⟨_,_,Z,Z,⟨_,_,Z,⟨_,Z,(e646h3.mono  Ah)⟩,⟨_,_,Z,⟨_,Z,(e646h4.mono  Ah)⟩,⟨_,Z,(e646h5.mono  Ah)⟩⟩⟩⟩⟩) .nil) ?_;intro q3 q4 o1 ct e9 g6;have a:=a.trans (Aa e9);refine AV ⟨a.trans (An ct),ct.at (i:=2) Z,ct.at (i:=3) Z,ct.at (i:=7) Z⟩ fun kI858=>FY 9 Z ?_;have et:=et.mono (Aa e9);refine Bt (r:=(.vec .byte)) 6 y [(a0.getD b.toNat Qq2).1] Z AjB ct Z (((af.mono e).mono c).mono a) et ab ?_;intro m1 q5 k5 cu fa g7;have a:=a.trans (Aa fa);refine AV ⟨a.trans (An cu),cu.at (i:=2) Z,cu.at (i:=3) Z,cu.at (i:=7) Z⟩ fun kI860=>FY 14 Z ?_;have g6:=g6.mono (Aa fa);refine Bt (r:=.tree) 5 x [((a0.getD b.toNat Qq2).2)] Z Aj9 cu Z (((ae.mono e).mono c).mono a) g6 ac ?_
       intro m2 q6 k6 bm fb g8;have a:=a.trans (Aa fb);refine AV ⟨a.trans (An bm),bm.at (i:=2) Z,bm.at (i:=3) Z,bm.at (i:=7) Z⟩ fun kI862=>FY 16 Z<|B5 7 Z (row_one (bm.at (i:=4) Z)) bm Z Z fun q7 k7 cv=>DA [0,1,2,3,4,5,6,7,8,9,10,11,12,13,14,15]<|FY 17 Z<|Ar 1 Z<|DA [0,1,2,3,4,5,6,7,8,9,10,11,12,13,14,15,16]<|FY 18 Z<|Ar 1 Z<|G7<|EF ?_;have aq:=aq.mono (Aa (e6.trans (e9.trans (fa.trans (fb.trans cv)))));have g7:=g7.mono (Aa (fb.trans cv));have g8:=g8.mono (Aa cv);have a:=a.trans (Aa cv);refine AA ((aa++[(d.1.1,d.1.2.1,d.1.2.2)]),(x++[((a0.getD b.toNat Qq2).2)]),(y++[(a0.getD b.toNat Qq2).1]),i1,g3,m2,k6,m1,k5) ⟨k7,((g.mono c).mono a),((k.mono c).mono a),((o.mono c).mono a),aq,g8,g7,h⟩
      refine A2 h fun ab h=>A2 h fun ac h=>B9 [((a0.getD b.toNat Qq2).2)] (r:=.tree) (fun _=>La _ _ _ _ _ _) bj (.c5 (Go.E.Rp.ET ⟨_,_,Z,Z,⟨_,_,Z,Z,⟨_,_,Z,⟨_,Z,(e646h3.mono  Ah)⟩,⟨_,_,Z,⟨_,Z,(e646h4.mono  Ah)⟩,⟨_,Z,(e646h5.mono  Ah)⟩⟩⟩⟩⟩) .nil) ?_;intro q8 q9 o2 cw il g9;have a:=a.trans (Aa il);refine AV ⟨a.trans (An cw),cw.at (i:=2) Z,cw.at (i:=3) Z,cw.at (i:=7) Z⟩ fun kI865=>FY 8 Z<|B9 [(a0.getD b.toNat Qq2).1] (r:=(.vec .byte)) (fun _=>N6 _ e646h0.one _) cw (.c1 ⟨_,Z,(e646h0.mono  Ah)⟩ .nil) ?_;intro ra rb o3 cx fc k8;have a:=a.trans (Aa fc);refine AV ⟨a.trans (An cx),cx.at (i:=2) Z,cx.at (i:=3) Z,cx.at (i:=7) Z⟩ fun kI867=>FY 9 Z<|Bt (r:=(.vec .byte)) 6 y [(a0.getD b.toNat Qq2).1] Z AjB cx Z (((af.mono e).mono c).mono a) k8 ab ?_;intro m3 rc k9 cy fd ha;have a:=a.trans (Aa fd)
      refine AV ⟨a.trans (An cy),cy.at (i:=2) Z,cy.at (i:=3) Z,cy.at (i:=7) Z⟩ fun kI869=>FY 14 Z ?_;have g9:=g9.mono (Aa (fc.trans fd));refine Bt (r:=.tree) 5 x [((a0.getD b.toNat Qq2).2)] Z Aj9 cy Z (((ae.mono e).mono c).mono a) g9 ac ?_;intro m4 rd la bn fe hb;have a:=a.trans (Aa fe);refine AV ⟨a.trans (An bn),bn.at (i:=2) Z,bn.at (i:=3) Z,bn.at (i:=7) Z⟩ fun kI871=>FY 16 Z<|B5 7 Z (row_one (bn.at (i:=4) Z)) bn Z Z fun re lb cz=>DA [0,1,2,3,4,5,6,7,8,9,10,11,12,13,14,15]<|FY 17 Z<|Ar 1 Z<|DA [0,1,2,3,4,5,6,7,8,9,10,11,12,13,14,15,16]<|FY 18 Z<|Ar 1 Z<|G7<|EF ?_;have aq:=aq.mono (Aa (il.trans (fc.trans (fd.trans (fe.trans cz)))));have ha:=ha.mono (Aa (fe.trans cz));have hb:=hb.mono (Aa cz);have a:=a.trans (Aa cz)
      refine AA ((aa++[(d.1.1,d.1.2.1,d.1.2.2)]),(x++[((a0.getD b.toNat Qq2).2)]),(y++[(a0.getD b.toNat Qq2).1]),i1,g3,m4,la,m3,k9) ⟨lb,((g.mono c).mono a),((k.mono c).mono a),((o.mono c).mono a),aq,hb,ha,h⟩
     ·refine A2 h fun ah h=>A2 h fun ab h=>A2 h fun ac h=>B9 [(a0.getD b.toNat Qq2).1] (r:=(.vec .byte)) (fun _=>N6 _ e646h0.one _) a6 (.c1 ⟨_,Z,(e646h0.mono  Ah)⟩ .nil) ?_;intro rf rg o4 bo ff ar;have a:=a.trans (Aa ff);refine AV ⟨a.trans (An bo),bo.at (i:=2) Z,bo.at (i:=3) Z,bo.at (i:=7) Z⟩ fun kI874=>NI2 4 13 Z Z ?_ ?_
      ·have e:=e.trans (Aa (aj.trans (ak.trans (al.trans (p.trans (q.trans (t.trans u)))))));have am:=am.mono (Aa ff);refine Bt (r:=Ako) 4 aa [(d.1.1,d.1.2.1,d.1.2.2)] Z AjW bo Z (((ai.mono e).mono c).mono a) am ah ?_;intro jo rh i6 bp fg bq;have a:=a.trans (Aa fg);refine AV ⟨a.trans (An bp),bp.at (i:=2) Z,bp.at (i:=3) Z,bp.at (i:=7) Z⟩ fun kI876=>A6 15 ad kI876 Z (fun _ _=>Ae Z AjU Z Lo.e) Z<|NI2 9 13 Z Z ?_ ?_
       ·have ar:=ar.mono (Aa fg);refine Bt (r:=(.vec .byte)) 6 y [(a0.getD b.toNat Qq2).1] Z AjB bp Z (((af.mono e).mono c).mono a) ar ab ?_;intro m5 ri lc c0 im hc;have a:=a.trans (Aa im);refine AV ⟨a.trans (An c0),c0.at (i:=2) Z,c0.at (i:=3) Z,c0.at (i:=7) Z⟩ fun kI878=>FY 13 Z<|B9 [((a0.getD b.toNat Qq2).2)] (r:=.tree) (fun _=>La _ _ _ _ _ _) c0 (.c5 (Go.E.Rp.ET ⟨_,_,Z,Z,⟨_,_,Z,Z,⟨_,_,Z,⟨_,Z,(e646h3.mono  Ah)⟩,⟨_,_,Z,⟨_,Z,(e646h4.mono  Ah)⟩,⟨_,Z,(e646h5.mono  Ah)⟩⟩⟩⟩⟩) .nil) ?_;intro rj rk o5 c2 fh ld;have a:=a.trans (Aa fh);refine AV ⟨a.trans (An c2),c2.at (i:=2) Z,c2.at (i:=3) Z,c2.at (i:=7) Z⟩ fun kI880=>FY 14 Z<|Bt (r:=.tree) 5 x [((a0.getD b.toNat Qq2).2)] Z Aj9 c2 Z (((ae.mono e).mono c).mono a) ld ac ?_;intro m6 rl le br fi hd;have a:=a.trans (Aa fi)
        refine AV ⟨a.trans (An br),br.at (i:=2) Z,br.at (i:=3) Z,br.at (i:=7) Z⟩ fun kI882=>FY 16 Z<|B5 7 Z (row_one (br.at (i:=4) Z)) br Z Z fun rm lf c4=>DA [0,1,2,3,4,5,6,7,8,9,10,11,12,13,14,15]<|FY 17 Z<|Ar 1 Z<|DA [0,1,2,3,4,5,6,7,8,9,10,11,12,13,14,15,16]<|FY 18 Z<|Ar 1 Z<|G7<|EF ?_;have bq:=bq.mono (Aa (im.trans (fh.trans (fi.trans c4))));have hc:=hc.mono (Aa (fh.trans (fi.trans c4)));have hd:=hd.mono (Aa c4);have a:=a.trans (Aa c4);refine AA ((aa++[(d.1.1,d.1.2.1,d.1.2.2)]),(x++[((a0.getD b.toNat Qq2).2)]),(y++[(a0.getD b.toNat Qq2).1]),jo,i6,m6,le,m5,lc) ⟨lf,((g.mono c).mono a),((k.mono c).mono a),((o.mono c).mono a),bq,hd,hc,h⟩
       refine B9 [((a0.getD b.toNat Qq2).2)] (r:=.tree) (fun _=>La _ _ _ _ _ _) bp (.c5 (Go.E.Rp.ET ⟨_,_,Z,Z,⟨_,_,Z,Z,⟨_,_,Z,⟨_,Z,(e646h3.mono  Ah)⟩,⟨_,_,Z,⟨_,Z,(e646h4.mono  Ah)⟩,⟨_,Z,(e646h5.mono  Ah)⟩⟩⟩⟩⟩) .nil) ?_;intro rn ro o6 c6 fj he;have a:=a.trans (Aa fj);refine AV ⟨a.trans (An c6),c6.at (i:=2) Z,c6.at (i:=3) Z,c6.at (i:=7) Z⟩ fun kI885=>FY 9 Z ?_;have ar:=ar.mono (Aa (fg.trans fj));refine Bt (r:=(.vec .byte)) 6 y [(a0.getD b.toNat Qq2).1] Z AjB c6 Z (((af.mono e).mono c).mono a) ar ab ?_;intro m7 rp lg c7 fk hf;have a:=a.trans (Aa fk);refine AV ⟨a.trans (An c7),c7.at (i:=2) Z,c7.at (i:=3) Z,c7.at (i:=7) Z⟩ fun kI887=>FY 14 Z ?_;have he:=he.mono (Aa fk);refine Bt (r:=.tree) 5 x [((a0.getD b.toNat Qq2).2)] Z Aj9 c7 Z (((ae.mono e).mono c).mono a) he ac ?_;intro m8 rq lh bs fl hg;have a:=a.trans (Aa fl)
       refine AV ⟨a.trans (An bs),bs.at (i:=2) Z,bs.at (i:=3) Z,bs.at (i:=7) Z⟩ fun kI889=>FY 16 Z<|B5 7 Z (row_one (bs.at (i:=4) Z)) bs Z Z fun rr li c8=>DA [0,1,2,3,4,5,6,7,8,9,10,11,12,13,14,15]<|FY 17 Z<|Ar 1 Z<|DA [0,1,2,3,4,5,6,7,8,9,10,11,12,13,14,15,16]<|FY 18 Z<|Ar 1 Z<|G7<|EF ?_;have bq:=bq.mono (Aa (fj.trans (fk.trans (fl.trans c8))));have hf:=hf.mono (Aa (fl.trans c8));have hg:=hg.mono (Aa c8);have a:=a.trans (Aa c8);refine AA ((aa++[(d.1.1,d.1.2.1,d.1.2.2)]),(x++[((a0.getD b.toNat Qq2).2)]),(y++[(a0.getD b.toNat Qq2).1]),jo,i6,m8,lh,m7,lg) ⟨li,((g.mono c).mono a),((k.mono c).mono a),((o.mono c).mono a),bq,hg,hf,h⟩
      refine B9 [((a0.getD b.toNat Qq2).2)] (r:=.tree) (fun _=>La _ _ _ _ _ _) bo (.c5 (Go.E.Rp.ET ⟨_,_,Z,Z,⟨_,_,Z,Z,⟨_,_,Z,⟨_,Z,(e646h3.mono  Ah)⟩,⟨_,_,Z,⟨_,Z,(e646h4.mono  Ah)⟩,⟨_,Z,(e646h5.mono  Ah)⟩⟩⟩⟩⟩) .nil) ?_;intro rs rt o7 c9 fm hh;have a:=a.trans (Aa fm);refine AV ⟨a.trans (An c9),c9.at (i:=2) Z,c9.at (i:=3) Z,c9.at (i:=7) Z⟩ fun kI892=>FY 4 Z ?_;have e:=e.trans (Aa (aj.trans (ak.trans (al.trans (p.trans (q.trans (t.trans u)))))));have am:=am.mono (Aa (ff.trans fm));refine Bt (r:=Ako) 4 aa [(d.1.1,d.1.2.1,d.1.2.2)] Z AjW c9 Z (((ai.mono e).mono c).mono a) am ah ?_;intro m9 ru lj da fn hi;have a:=a.trans (Aa fn);refine AV ⟨a.trans (An da),da.at (i:=2) Z,da.at (i:=3) Z,da.at (i:=7) Z⟩ fun kI894=>A6 15 ad kI894 Z (fun _ _=>Ae Z AjU Z Lo.e) Z<|FY 9 Z ?_
      have ar:=ar.mono (Aa (fm.trans fn));refine Bt (r:=(.vec .byte)) 6 y [(a0.getD b.toNat Qq2).1] Z AjB da Z (((af.mono e).mono c).mono a) ar ab ?_;intro na rv lk db fo hj;have a:=a.trans (Aa fo);refine AV ⟨a.trans (An db),db.at (i:=2) Z,db.at (i:=3) Z,db.at (i:=7) Z⟩ fun kI896=>FY 14 Z ?_;have hh:=hh.mono (Aa (fn.trans fo));refine Bt (r:=.tree) 5 x [((a0.getD b.toNat Qq2).2)] Z Aj9 db Z (((ae.mono e).mono c).mono a) hh ac ?_;intro nb rx ll bt fp hk;have a:=a.trans (Aa fp);refine AV ⟨a.trans (An bt),bt.at (i:=2) Z,bt.at (i:=3) Z,bt.at (i:=7) Z⟩ fun kI898=>FY 16 Z<|B5 7 Z (row_one (bt.at (i:=4) Z)) bt Z Z fun ry lm dc=>DA [0,1,2,3,4,5,6,7,8,9,10,11,12,13,14,15]<|FY 17 Z<|Ar 1 Z<|DA [0,1,2,3,4,5,6,7,8,9,10,11,12,13,14,15,16]<|FY 18 Z<|Ar 1 Z ?_
      refine G7<|EF ?_;have hi:=hi.mono (Aa (fo.trans (fp.trans dc)));have hj:=hj.mono (Aa (fp.trans dc));have hk:=hk.mono (Aa dc);have a:=a.trans (Aa dc);refine AA ((aa++[(d.1.1,d.1.2.1,d.1.2.2)]),(x++[((a0.getD b.toNat Qq2).2)]),(y++[(a0.getD b.toNat Qq2).1]),m9,lj,nb,ll,na,lk) ⟨lm,((g.mono c).mono a),((k.mono c).mono a),((o.mono c).mono a),hi,hk,hj,h⟩
     refine A2 h fun ah h=>A2 h fun ab h=>A2 h fun ac h=>B9 [((a0.getD b.toNat Qq2).2)] (r:=.tree) (fun _=>La _ _ _ _ _ _) a6 (.c5 (Go.E.Rp.ET ⟨_,_,Z,Z,⟨_,_,Z,Z,⟨_,_,Z,⟨_,Z,(e646h3.mono  Ah)⟩,⟨_,_,Z,⟨_,Z,(e646h4.mono  Ah)⟩,⟨_,Z,(e646h5.mono  Ah)⟩⟩⟩⟩⟩) .nil) ?_;intro rz r0 o8 bu fq bv;have a:=a.trans (Aa fq);refine AV ⟨a.trans (An bu),bu.at (i:=2) Z,bu.at (i:=3) Z,bu.at (i:=7) Z⟩ fun kI901=>NI2 4 8 Z Z ?_ ?_
     ·have e:=e.trans (Aa (aj.trans (ak.trans (al.trans (p.trans (q.trans (t.trans u)))))));have am:=am.mono (Aa fq);refine Bt (r:=Ako) 4 aa [(d.1.1,d.1.2.1,d.1.2.2)] Z AjW bu Z (((ai.mono e).mono c).mono a) am ah ?_;intro nc r1 ln dd io hl;have a:=a.trans (Aa io);refine AV ⟨a.trans (An dd),dd.at (i:=2) Z,dd.at (i:=3) Z,dd.at (i:=7) Z⟩ fun kI903=>A6 15 ad kI903 Z (fun _ _=>Ae Z AjU Z Lo.e) Z<|FY 8 Z<|B9 [(a0.getD b.toNat Qq2).1] (r:=(.vec .byte)) (fun _=>N6 _ e646h0.one _) dd (.c1 ⟨_,Z,(e646h0.mono  Ah)⟩ .nil) ?_;intro r2 r3 o9 de fr lo;have a:=a.trans (Aa fr);refine AV ⟨a.trans (An de),de.at (i:=2) Z,de.at (i:=3) Z,de.at (i:=7) Z⟩ fun kI905=>FY 9 Z<|Bt (r:=(.vec .byte)) 6 y [(a0.getD b.toNat Qq2).1] Z AjB de Z (((af.mono e).mono c).mono a) lo ab ?_
      intro nd r4 lp df fs hm;have a:=a.trans (Aa fs);refine AV ⟨a.trans (An df),df.at (i:=2) Z,df.at (i:=3) Z,df.at (i:=7) Z⟩ fun kI907=>FY 14 Z ?_;have bv:=bv.mono (Aa (io.trans (fr.trans fs)));refine Bt (r:=.tree) 5 x [((a0.getD b.toNat Qq2).2)] Z Aj9 df Z (((ae.mono e).mono c).mono a) bv ac ?_;intro nf r5 lq bw ft hn;have a:=a.trans (Aa ft);refine AV ⟨a.trans (An bw),bw.at (i:=2) Z,bw.at (i:=3) Z,bw.at (i:=7) Z⟩ fun kI909=>FY 16 Z<|B5 7 Z (row_one (bw.at (i:=4) Z)) bw Z Z fun r6 lr dg=>DA [0,1,2,3,4,5,6,7,8,9,10,11,12,13,14,15]<|FY 17 Z<|Ar 1 Z<|DA [0,1,2,3,4,5,6,7,8,9,10,11,12,13,14,15,16]<|FY 18 Z<|Ar 1 Z<|G7<|EF ?_;have hl:=hl.mono (Aa (fr.trans (fs.trans (ft.trans dg))));have hm:=hm.mono (Aa (ft.trans dg))
      have hn:=hn.mono (Aa dg);have a:=a.trans (Aa dg);refine AA ((aa++[(d.1.1,d.1.2.1,d.1.2.2)]),(x++[((a0.getD b.toNat Qq2).2)]),(y++[(a0.getD b.toNat Qq2).1]),nc,ln,nf,lq,nd,lp) ⟨lr,((g.mono c).mono a),((k.mono c).mono a),((o.mono c).mono a),hl,hn,hm,h⟩
     refine B9 [(a0.getD b.toNat Qq2).1] (r:=(.vec .byte)) (fun _=>N6 _ e646h0.one _) bu (.c1 ⟨_,Z,(e646h0.mono  Ah)⟩ .nil) ?_;intro r7 r8 pa dh fu ho;have a:=a.trans (Aa fu);refine AV ⟨a.trans (An dh),dh.at (i:=2) Z,dh.at (i:=3) Z,dh.at (i:=7) Z⟩ fun kI912=>FY 4 Z ?_;have e:=e.trans (Aa (aj.trans (ak.trans (al.trans (p.trans (q.trans (t.trans u)))))));have am:=am.mono (Aa (fq.trans fu));refine Bt (r:=Ako) 4 aa [(d.1.1,d.1.2.1,d.1.2.2)] Z AjW dh Z (((ai.mono e).mono c).mono a) am ah ?_;intro ng r9 ls di fv hq;have a:=a.trans (Aa fv);refine AV ⟨a.trans (An di),di.at (i:=2) Z,di.at (i:=3) Z,di.at (i:=7) Z⟩ fun kI914=>A6 15 ad kI914 Z (fun _ _=>Ae Z AjU Z Lo.e) Z<|FY 9 Z ?_;have ho:=ho.mono (Aa fv)
     refine Bt (r:=(.vec .byte)) 6 y [(a0.getD b.toNat Qq2).1] Z AjB di Z (((af.mono e).mono c).mono a) ho ab ?_;intro nh sa lt dj fw hr;have a:=a.trans (Aa fw);refine AV ⟨a.trans (An dj),dj.at (i:=2) Z,dj.at (i:=3) Z,dj.at (i:=7) Z⟩ fun kI916=>FY 14 Z ?_;have bv:=bv.mono (Aa (fu.trans (fv.trans fw)));refine Bt (r:=.tree) 5 x [((a0.getD b.toNat Qq2).2)] Z Aj9 dj Z (((ae.mono e).mono c).mono a) bv ac ?_;intro ni sb lu bx fx hs;have a:=a.trans (Aa fx);refine AV ⟨a.trans (An bx),bx.at (i:=2) Z,bx.at (i:=3) Z,bx.at (i:=7) Z⟩ fun kI918=>FY 16 Z<|B5 7 Z (row_one (bx.at (i:=4) Z)) bx Z Z fun sc lv dk=>DA [0,1,2,3,4,5,6,7,8,9,10,11,12,13,14,15]<|FY 17 Z<|Ar 1 Z<|DA [0,1,2,3,4,5,6,7,8,9,10,11,12,13,14,15,16]<|FY 18 Z<|Ar 1 Z<|G7 ?_
     refine EF ?_;have hq:=hq.mono (Aa (fw.trans (fx.trans dk)));have hr:=hr.mono (Aa (fx.trans dk));have hs:=hs.mono (Aa dk);have a:=a.trans (Aa dk);refine AA ((aa++[(d.1.1,d.1.2.1,d.1.2.2)]),(x++[((a0.getD b.toNat Qq2).2)]),(y++[(a0.getD b.toNat Qq2).1]),ng,ls,ni,lu,nh,lt) ⟨lv,((g.mono c).mono a),((k.mono c).mono a),((o.mono c).mono a),hq,hs,hr,h⟩
    ·refine A2 h fun ah h=>A2 h fun ab h=>A2 h fun ac h=>B9 [(a0.getD b.toNat Qq2).1] (r:=(.vec .byte)) (fun _=>N6 _ e646h0.one _) a2 (.c1 ⟨_,Z,(e646h0.mono  Ah)⟩ .nil) ?_;intro sd se pb bz jp an;have a:=a.trans (Aa jp);refine AV ⟨a.trans (An bz),bz.at (i:=2) Z,bz.at (i:=3) Z,bz.at (i:=7) Z⟩ fun kI921=>NI2 3 13 Z Z ?_ ?_
     ·have g:=g.mono (Aa (p.trans (q.trans (t.trans u))));have k:=k.mono (Aa (p.trans (q.trans (t.trans u))));have o:=o.mono (Aa (p.trans (q.trans (t.trans u))));have c:=c.trans (Aa (a9.trans (ba.trans (bb.trans bf))));refine B9 [(d.1.1,d.1.2.1,d.1.2.2)] (r:=Ako) (fun _=>S2 _ _ _ _) bz (.c3 ⟨_,_,Z,⟨_,Z,((g.mono c).mono a)⟩,⟨_,_,Z,⟨_,Z,((k.mono c).mono a)⟩,⟨_,Z,((o.mono c).mono a)⟩⟩⟩ .nil) ?_;intro sf sg pc b0 dl eu;have a:=a.trans (Aa dl);refine AV ⟨a.trans (An b0),b0.at (i:=2) Z,b0.at (i:=3) Z,b0.at (i:=7) Z⟩ fun kI923=>NI2 4 13 Z Z ?_ ?_
      ·have e:=e.trans (Aa (aj.trans (ak.trans (al.trans (p.trans (q.trans (t.trans u)))))));refine Bt (r:=Ako) 4 aa [(d.1.1,d.1.2.1,d.1.2.2)] Z AjW b0 Z (((ai.mono e).mono c).mono a) eu ah ?_;intro jq sh i7 b3 fy b4;have a:=a.trans (Aa fy);refine AV ⟨a.trans (An b3),b3.at (i:=2) Z,b3.at (i:=3) Z,b3.at (i:=7) Z⟩ fun kI925=>A6 15 ad kI925 Z (fun _ _=>Ae Z AjU Z Lo.e) Z<|NI2 9 13 Z Z ?_ ?_
       ·have an:=an.mono (Aa (dl.trans fy));refine Bt (r:=(.vec .byte)) 6 y [(a0.getD b.toNat Qq2).1] Z AjB b3 Z (((af.mono e).mono c).mono a) an ab ?_;intro nj si lw dm ip ht;have a:=a.trans (Aa ip);refine AV ⟨a.trans (An dm),dm.at (i:=2) Z,dm.at (i:=3) Z,dm.at (i:=7) Z⟩ fun kI927=>FY 13 Z<|B9 [((a0.getD b.toNat Qq2).2)] (r:=.tree) (fun _=>La _ _ _ _ _ _) dm (.c5 (Go.E.Rp.ET ⟨_,_,Z,Z,⟨_,_,Z,Z,⟨_,_,Z,⟨_,Z,(e646h3.mono  Ah)⟩,⟨_,_,Z,⟨_,Z,(e646h4.mono  Ah)⟩,⟨_,Z,(e646h5.mono  Ah)⟩⟩⟩⟩⟩) .nil) ?_;intro sj sk pd dn fz lx;have a:=a.trans (Aa fz);refine AV ⟨a.trans (An dn),dn.at (i:=2) Z,dn.at (i:=3) Z,dn.at (i:=7) Z⟩ fun kI929=>FY 14 Z<|Bt (r:=.tree) 5 x [((a0.getD b.toNat Qq2).2)] Z Aj9 dn Z (((ae.mono e).mono c).mono a) lx ac ?_;intro nk sl ly b5 f0 hu;have a:=a.trans (Aa f0)
        refine AV ⟨a.trans (An b5),b5.at (i:=2) Z,b5.at (i:=3) Z,b5.at (i:=7) Z⟩ fun kI931=>FY 16 Z<|B5 7 Z (row_one (b5.at (i:=4) Z)) b5 Z Z fun sm lz dp=>DA [0,1,2,3,4,5,6,7,8,9,10,11,12,13,14,15]<|FY 17 Z<|Ar 1 Z<|DA [0,1,2,3,4,5,6,7,8,9,10,11,12,13,14,15,16]<|FY 18 Z<|Ar 1 Z<|G7<|EF ?_;have b4:=b4.mono (Aa (ip.trans (fz.trans (f0.trans dp))));have ht:=ht.mono (Aa (fz.trans (f0.trans dp)));have hu:=hu.mono (Aa dp);have a:=a.trans (Aa dp);refine AA ((aa++[(d.1.1,d.1.2.1,d.1.2.2)]),(x++[((a0.getD b.toNat Qq2).2)]),(y++[(a0.getD b.toNat Qq2).1]),jq,i7,nk,ly,nj,lw) ⟨lz,((g.mono c).mono a),((k.mono c).mono a),((o.mono c).mono a),b4,hu,ht,h⟩
       refine B9 [((a0.getD b.toNat Qq2).2)] (r:=.tree) (fun _=>La _ _ _ _ _ _) b3 (.c5 (Go.E.Rp.ET ⟨_,_,Z,Z,⟨_,_,Z,Z,⟨_,_,Z,⟨_,Z,(e646h3.mono  Ah)⟩,⟨_,_,Z,⟨_,Z,(e646h4.mono  Ah)⟩,⟨_,Z,(e646h5.mono  Ah)⟩⟩⟩⟩⟩) .nil) ?_;intro sn so pe dq f1 hv;have a:=a.trans (Aa f1);refine AV ⟨a.trans (An dq),dq.at (i:=2) Z,dq.at (i:=3) Z,dq.at (i:=7) Z⟩ fun kI934=>FY 9 Z ?_;have an:=an.mono (Aa (dl.trans (fy.trans f1)));refine Bt (r:=(.vec .byte)) 6 y [(a0.getD b.toNat Qq2).1] Z AjB dq Z (((af.mono e).mono c).mono a) an ab ?_;intro nl sp l0 dr f2 hw;have a:=a.trans (Aa f2);refine AV ⟨a.trans (An dr),dr.at (i:=2) Z,dr.at (i:=3) Z,dr.at (i:=7) Z⟩ fun kI936=>FY 14 Z ?_;have hv:=hv.mono (Aa f2);refine Bt (r:=.tree) 5 x [((a0.getD b.toNat Qq2).2)] Z Aj9 dr Z (((ae.mono e).mono c).mono a) hv ac ?_;intro nm sq l1 b6 f3 hx
       have a:=a.trans (Aa f3);refine AV ⟨a.trans (An b6),b6.at (i:=2) Z,b6.at (i:=3) Z,b6.at (i:=7) Z⟩ fun kI938=>FY 16 Z<|B5 7 Z (row_one (b6.at (i:=4) Z)) b6 Z Z fun sr l2 ds=>DA [0,1,2,3,4,5,6,7,8,9,10,11,12,13,14,15]<|FY 17 Z<|Ar 1 Z<|DA [0,1,2,3,4,5,6,7,8,9,10,11,12,13,14,15,16]<|FY 18 Z<|Ar 1 Z<|G7<|EF ?_;have b4:=b4.mono (Aa (f1.trans (f2.trans (f3.trans ds))));have hw:=hw.mono (Aa (f3.trans ds));have hx:=hx.mono (Aa ds);have a:=a.trans (Aa ds);refine AA ((aa++[(d.1.1,d.1.2.1,d.1.2.2)]),(x++[((a0.getD b.toNat Qq2).2)]),(y++[(a0.getD b.toNat Qq2).1]),jq,i7,nm,l1,nl,l0) ⟨l2,((g.mono c).mono a),((k.mono c).mono a),((o.mono c).mono a),b4,hx,hw,h⟩
      refine B9 [((a0.getD b.toNat Qq2).2)] (r:=.tree) (fun _=>La _ _ _ _ _ _) b0 (.c5 (Go.E.Rp.ET ⟨_,_,Z,Z,⟨_,_,Z,Z,⟨_,_,Z,⟨_,Z,(e646h3.mono  Ah)⟩,⟨_,_,Z,⟨_,Z,(e646h4.mono  Ah)⟩,⟨_,Z,(e646h5.mono  Ah)⟩⟩⟩⟩⟩) .nil) ?_;intro ss su pf dt f4 hy;have a:=a.trans (Aa f4);refine AV ⟨a.trans (An dt),dt.at (i:=2) Z,dt.at (i:=3) Z,dt.at (i:=7) Z⟩ fun kI941=>FY 4 Z ?_;have e:=e.trans (Aa (aj.trans (ak.trans (al.trans (p.trans (q.trans (t.trans u)))))));have eu:=eu.mono (Aa f4);refine Bt (r:=Ako) 4 aa [(d.1.1,d.1.2.1,d.1.2.2)] Z AjW dt Z (((ai.mono e).mono c).mono a) eu ah ?_;intro nn sv l3 du f5 hz;have a:=a.trans (Aa f5);refine AV ⟨a.trans (An du),du.at (i:=2) Z,du.at (i:=3) Z,du.at (i:=7) Z⟩ fun kI943=>A6 15 ad kI943 Z (fun _ _=>Ae Z AjU Z Lo.e) Z<|FY 9 Z ?_
      have an:=an.mono (Aa (dl.trans (f4.trans f5)));refine Bt (r:=(.vec .byte)) 6 y [(a0.getD b.toNat Qq2).1] Z AjB du Z (((af.mono e).mono c).mono a) an ab ?_;intro no sw l4 dv f6 h0;have a:=a.trans (Aa f6);refine AV ⟨a.trans (An dv),dv.at (i:=2) Z,dv.at (i:=3) Z,dv.at (i:=7) Z⟩ fun kI945=>FY 14 Z ?_;have hy:=hy.mono (Aa (f5.trans f6));refine Bt (r:=.tree) 5 x [((a0.getD b.toNat Qq2).2)] Z Aj9 dv Z (((ae.mono e).mono c).mono a) hy ac ?_;intro np sx l5 b7 f7 h1;have a:=a.trans (Aa f7);refine AV ⟨a.trans (An b7),b7.at (i:=2) Z,b7.at (i:=3) Z,b7.at (i:=7) Z⟩ fun kI947=>FY 16 Z<|B5 7 Z (row_one (b7.at (i:=4) Z)) b7 Z Z fun sy l6 dw=>DA [0,1,2,3,4,5,6,7,8,9,10,11,12,13,14,15]<|FY 17 Z<|Ar 1 Z<|DA [0,1,2,3,4,5,6,7,8,9,10,11,12,13,14,15,16]<|FY 18 Z ?_
      refine Ar 1 Z<|G7<|EF ?_;have hz:=hz.mono (Aa (f6.trans (f7.trans dw)));have h0:=h0.mono (Aa (f7.trans dw));have h1:=h1.mono (Aa dw);have a:=a.trans (Aa dw);refine AA ((aa++[(d.1.1,d.1.2.1,d.1.2.2)]),(x++[((a0.getD b.toNat Qq2).2)]),(y++[(a0.getD b.toNat Qq2).1]),nn,l3,np,l5,no,l4) ⟨l6,((g.mono c).mono a),((k.mono c).mono a),((o.mono c).mono a),hz,h1,h0,h⟩
     refine B9 [((a0.getD b.toNat Qq2).2)] (r:=.tree) (fun _=>La _ _ _ _ _ _) bz (.c5 (Go.E.Rp.ET ⟨_,_,Z,Z,⟨_,_,Z,Z,⟨_,_,Z,⟨_,Z,(e646h3.mono  Ah)⟩,⟨_,_,Z,⟨_,Z,(e646h4.mono  Ah)⟩,⟨_,Z,(e646h5.mono  Ah)⟩⟩⟩⟩⟩) .nil) ?_;intro sz s0 pg dx iq h2;have a:=a.trans (Aa iq);refine AV ⟨a.trans (An dx),dx.at (i:=2) Z,dx.at (i:=3) Z,dx.at (i:=7) Z⟩ fun kI950=>FY 3 Z ?_;have g:=g.mono (Aa (p.trans (q.trans (t.trans u))));have k:=k.mono (Aa (p.trans (q.trans (t.trans u))));have o:=o.mono (Aa (p.trans (q.trans (t.trans u))));have c:=c.trans (Aa (a9.trans (ba.trans (bb.trans bf))));refine B9 [(d.1.1,d.1.2.1,d.1.2.2)] (r:=Ako) (fun _=>S2 _ _ _ _) dx (.c3 ⟨_,_,Z,⟨_,Z,((g.mono c).mono a)⟩,⟨_,_,Z,⟨_,Z,((k.mono c).mono a)⟩,⟨_,Z,((o.mono c).mono a)⟩⟩⟩ .nil) ?_;intro s1 s2 ph dy f8 l7;have a:=a.trans (Aa f8)
     refine AV ⟨a.trans (An dy),dy.at (i:=2) Z,dy.at (i:=3) Z,dy.at (i:=7) Z⟩ fun kI952=>FY 4 Z ?_;have e:=e.trans (Aa (aj.trans (ak.trans (al.trans (p.trans (q.trans (t.trans u)))))));refine Bt (r:=Ako) 4 aa [(d.1.1,d.1.2.1,d.1.2.2)] Z AjW dy Z (((ai.mono e).mono c).mono a) l7 ah ?_;intro nq s3 l8 dz f9 h3;have a:=a.trans (Aa f9);refine AV ⟨a.trans (An dz),dz.at (i:=2) Z,dz.at (i:=3) Z,dz.at (i:=7) Z⟩ fun kI954=>A6 15 ad kI954 Z (fun _ _=>Ae Z AjU Z Lo.e) Z<|FY 9 Z ?_;have an:=an.mono (Aa (iq.trans (f8.trans f9)));refine Bt (r:=(.vec .byte)) 6 y [(a0.getD b.toNat Qq2).1] Z AjB dz Z (((af.mono e).mono c).mono a) an ab ?_;intro nr s4 l9 d0 ga h4;have a:=a.trans (Aa ga);refine AV ⟨a.trans (An d0),d0.at (i:=2) Z,d0.at (i:=3) Z,d0.at (i:=7) Z⟩ fun kI956=>?_
     refine FY 14 Z ?_;have h2:=h2.mono (Aa (f8.trans (f9.trans ga)));refine Bt (r:=.tree) 5 x [((a0.getD b.toNat Qq2).2)] Z Aj9 d0 Z (((ae.mono e).mono c).mono a) h2 ac ?_;intro ns s5 ma b8 gb h5;have a:=a.trans (Aa gb);refine AV ⟨a.trans (An b8),b8.at (i:=2) Z,b8.at (i:=3) Z,b8.at (i:=7) Z⟩ fun kI958=>FY 16 Z<|B5 7 Z (row_one (b8.at (i:=4) Z)) b8 Z Z fun s6 mb d1=>DA [0,1,2,3,4,5,6,7,8,9,10,11,12,13,14,15]<|FY 17 Z<|Ar 1 Z<|DA [0,1,2,3,4,5,6,7,8,9,10,11,12,13,14,15,16]<|FY 18 Z<|Ar 1 Z<|G7<|EF ?_;have h3:=h3.mono (Aa (ga.trans (gb.trans d1)));have h4:=h4.mono (Aa (gb.trans d1));have h5:=h5.mono (Aa d1);have a:=a.trans (Aa d1)
     refine AA ((aa++[(d.1.1,d.1.2.1,d.1.2.2)]),(x++[((a0.getD b.toNat Qq2).2)]),(y++[(a0.getD b.toNat Qq2).1]),nq,l8,ns,ma,nr,l9) ⟨mb,((g.mono c).mono a),((k.mono c).mono a),((o.mono c).mono a),h3,h5,h4,h⟩
    refine A2 h fun ah h=>A2 h fun ab h=>A2 h fun ac h=>B9 [((a0.getD b.toNat Qq2).2)] (r:=.tree) (fun _=>La _ _ _ _ _ _) a2 (.c5 (Go.E.Rp.ET ⟨_,_,Z,Z,⟨_,_,Z,Z,⟨_,_,Z,⟨_,Z,(e646h3.mono  Ah)⟩,⟨_,_,Z,⟨_,Z,(e646h4.mono  Ah)⟩,⟨_,Z,(e646h5.mono  Ah)⟩⟩⟩⟩⟩) .nil) ?_;intro s7 s8 pi b9 jr au;have a:=a.trans (Aa jr);refine AV ⟨a.trans (An b9),b9.at (i:=2) Z,b9.at (i:=3) Z,b9.at (i:=7) Z⟩ fun kI961=>NI2 3 8 Z Z ?_ ?_
    ·have g:=g.mono (Aa (p.trans (q.trans (t.trans u))));have k:=k.mono (Aa (p.trans (q.trans (t.trans u))));have o:=o.mono (Aa (p.trans (q.trans (t.trans u))));have c:=c.trans (Aa (a9.trans (ba.trans (bb.trans bf))));refine B9 [(d.1.1,d.1.2.1,d.1.2.2)] (r:=Ako) (fun _=>S2 _ _ _ _) b9 (.c3 ⟨_,_,Z,⟨_,Z,((g.mono c).mono a)⟩,⟨_,_,Z,⟨_,Z,((k.mono c).mono a)⟩,⟨_,Z,((o.mono c).mono a)⟩⟩⟩ .nil) ?_;intro s9 ta pj ca gc ev;have a:=a.trans (Aa gc);refine AV ⟨a.trans (An ca),ca.at (i:=2) Z,ca.at (i:=3) Z,ca.at (i:=7) Z⟩ fun kI963=>NI2 4 8 Z Z ?_ ?_
     ·have e:=e.trans (Aa (aj.trans (ak.trans (al.trans (p.trans (q.trans (t.trans u)))))));refine Bt (r:=Ako) 4 aa [(d.1.1,d.1.2.1,d.1.2.2)] Z AjW ca Z (((ai.mono e).mono c).mono a) ev ah ?_;intro nt tb mc d2 ir h6;have a:=a.trans (Aa ir);refine AV ⟨a.trans (An d2),d2.at (i:=2) Z,d2.at (i:=3) Z,d2.at (i:=7) Z⟩ fun kI965=>A6 15 ad kI965 Z (fun _ _=>Ae Z AjU Z Lo.e) Z<|FY 8 Z<|B9 [(a0.getD b.toNat Qq2).1] (r:=(.vec .byte)) (fun _=>N6 _ e646h0.one _) d2 (.c1 ⟨_,Z,(e646h0.mono  Ah)⟩ .nil) ?_;intro tc td pk d3 gd md;have a:=a.trans (Aa gd);refine AV ⟨a.trans (An d3),d3.at (i:=2) Z,d3.at (i:=3) Z,d3.at (i:=7) Z⟩ fun kI967=>FY 9 Z<|Bt (r:=(.vec .byte)) 6 y [(a0.getD b.toNat Qq2).1] Z AjB d3 Z (((af.mono e).mono c).mono a) md ab ?_;intro nu te me d4 ge h7
      have a:=a.trans (Aa ge);refine AV ⟨a.trans (An d4),d4.at (i:=2) Z,d4.at (i:=3) Z,d4.at (i:=7) Z⟩ fun kI969=>FY 14 Z ?_;have au:=au.mono (Aa (gc.trans (ir.trans (gd.trans ge))));refine Bt (r:=.tree) 5 x [((a0.getD b.toNat Qq2).2)] Z Aj9 d4 Z (((ae.mono e).mono c).mono a) au ac ?_;intro nv tf mf cb gf h8;have a:=a.trans (Aa gf);refine AV ⟨a.trans (An cb),cb.at (i:=2) Z,cb.at (i:=3) Z,cb.at (i:=7) Z⟩ fun kI971=>FY 16 Z<|B5 7 Z (row_one (cb.at (i:=4) Z)) cb Z Z fun tg mg d5=>DA [0,1,2,3,4,5,6,7,8,9,10,11,12,13,14,15]<|FY 17 Z<|Ar 1 Z<|DA [0,1,2,3,4,5,6,7,8,9,10,11,12,13,14,15,16]<|FY 18 Z<|Ar 1 Z<|G7<|EF ?_;have h6:=h6.mono (Aa (gd.trans (ge.trans (gf.trans d5))));have h7:=h7.mono (Aa (gf.trans d5));have h8:=h8.mono (Aa d5)
      have a:=a.trans (Aa d5);refine AA ((aa++[(d.1.1,d.1.2.1,d.1.2.2)]),(x++[((a0.getD b.toNat Qq2).2)]),(y++[(a0.getD b.toNat Qq2).1]),nt,mc,nv,mf,nu,me) ⟨mg,((g.mono c).mono a),((k.mono c).mono a),((o.mono c).mono a),h6,h8,h7,h⟩
     refine B9 [(a0.getD b.toNat Qq2).1] (r:=(.vec .byte)) (fun _=>N6 _ e646h0.one _) ca (.c1 ⟨_,Z,(e646h0.mono  Ah)⟩ .nil) ?_;intro th ti pl d6 gg h9;have a:=a.trans (Aa gg);refine AV ⟨a.trans (An d6),d6.at (i:=2) Z,d6.at (i:=3) Z,d6.at (i:=7) Z⟩ fun kI974=>FY 4 Z ?_;have e:=e.trans (Aa (aj.trans (ak.trans (al.trans (p.trans (q.trans (t.trans u)))))));have ev:=ev.mono (Aa gg);refine Bt (r:=Ako) 4 aa [(d.1.1,d.1.2.1,d.1.2.2)] Z AjW d6 Z (((ai.mono e).mono c).mono a) ev ah ?_;intro nx tj mh d7 gh ia;have a:=a.trans (Aa gh);refine AV ⟨a.trans (An d7),d7.at (i:=2) Z,d7.at (i:=3) Z,d7.at (i:=7) Z⟩ fun kI976=>A6 15 ad kI976 Z (fun _ _=>Ae Z AjU Z Lo.e) Z<|FY 9 Z ?_;have h9:=h9.mono (Aa gh)
     refine Bt (r:=(.vec .byte)) 6 y [(a0.getD b.toNat Qq2).1] Z AjB d7 Z (((af.mono e).mono c).mono a) h9 ab ?_;intro ny tk mi d8 gi ib;have a:=a.trans (Aa gi);refine AV ⟨a.trans (An d8),d8.at (i:=2) Z,d8.at (i:=3) Z,d8.at (i:=7) Z⟩ fun kI978=>FY 14 Z ?_;have au:=au.mono (Aa (gc.trans (gg.trans (gh.trans gi))));refine Bt (r:=.tree) 5 x [((a0.getD b.toNat Qq2).2)] Z Aj9 d8 Z (((ae.mono e).mono c).mono a) au ac ?_;intro nz tl mj cc gj ic;have a:=a.trans (Aa gj);refine AV ⟨a.trans (An cc),cc.at (i:=2) Z,cc.at (i:=3) Z,cc.at (i:=7) Z⟩ fun kI980=>FY 16 Z<|B5 7 Z (row_one (cc.at (i:=4) Z)) cc Z Z fun tm mk d9=>DA [0,1,2,3,4,5,6,7,8,9,10,11,12,13,14,15]<|FY 17 Z<|Ar 1 Z<|DA [0,1,2,3,4,5,6,7,8,9,10,11,12,13,14,15,16]<|FY 18 Z<|Ar 1 Z<|G7 ?_
     refine EF ?_;have ia:=ia.mono (Aa (gi.trans (gj.trans d9)));have ib:=ib.mono (Aa (gj.trans d9));have ic:=ic.mono (Aa d9);have a:=a.trans (Aa d9);refine AA ((aa++[(d.1.1,d.1.2.1,d.1.2.2)]),(x++[((a0.getD b.toNat Qq2).2)]),(y++[(a0.getD b.toNat Qq2).1]),nx,mh,nz,mj,ny,mi) ⟨mk,((g.mono c).mono a),((k.mono c).mono a),((o.mono c).mono a),ia,ic,ib,h⟩
    refine B9 [(a0.getD b.toNat Qq2).1] (r:=(.vec .byte)) (fun _=>N6 _ e646h0.one _) b9 (.c1 ⟨_,Z,(e646h0.mono  Ah)⟩ .nil) ?_;intro tn tp pm ea is ie;have a:=a.trans (Aa is);refine AV ⟨a.trans (An ea),ea.at (i:=2) Z,ea.at (i:=3) Z,ea.at (i:=7) Z⟩ fun kI983=>FY 3 Z ?_;have g:=g.mono (Aa (p.trans (q.trans (t.trans u))));have k:=k.mono (Aa (p.trans (q.trans (t.trans u))));have o:=o.mono (Aa (p.trans (q.trans (t.trans u))));have c:=c.trans (Aa (a9.trans (ba.trans (bb.trans bf))));refine B9 [(d.1.1,d.1.2.1,d.1.2.2)] (r:=Ako) (fun _=>S2 _ _ _ _) ea (.c3 ⟨_,_,Z,⟨_,Z,((g.mono c).mono a)⟩,⟨_,_,Z,⟨_,Z,((k.mono c).mono a)⟩,⟨_,Z,((o.mono c).mono a)⟩⟩⟩ .nil) ?_;intro tq tr pn eb gk ml;have a:=a.trans (Aa gk);refine AV ⟨a.trans (An eb),eb.at (i:=2) Z,eb.at (i:=3) Z,eb.at (i:=7) Z⟩ fun kI985=>FY 4 Z ?_
    have e:=e.trans (Aa (aj.trans (ak.trans (al.trans (p.trans (q.trans (t.trans u)))))));refine Bt (r:=Ako) 4 aa [(d.1.1,d.1.2.1,d.1.2.2)] Z AjW eb Z (((ai.mono e).mono c).mono a) ml ah ?_;intro n0 ts mm ec gl ig;have a:=a.trans (Aa gl);refine AV ⟨a.trans (An ec),ec.at (i:=2) Z,ec.at (i:=3) Z,ec.at (i:=7) Z⟩ fun kI987=>A6 15 ad kI987 Z (fun _ _=>Ae Z AjU Z Lo.e) Z<|FY 9 Z ?_;have ie:=ie.mono (Aa (gk.trans gl));refine Bt (r:=(.vec .byte)) 6 y [(a0.getD b.toNat Qq2).1] Z AjB ec Z (((af.mono e).mono c).mono a) ie ab ?_;intro n1 tt mn ed gm ih;have a:=a.trans (Aa gm);refine AV ⟨a.trans (An ed),ed.at (i:=2) Z,ed.at (i:=3) Z,ed.at (i:=7) Z⟩ fun kI989=>FY 14 Z ?_;have au:=au.mono (Aa (is.trans (gk.trans (gl.trans gm))))
    refine Bt (r:=.tree) 5 x [((a0.getD b.toNat Qq2).2)] Z Aj9 ed Z (((ae.mono e).mono c).mono a) au ac ?_;intro n2 tu mo cd gn ii;have a:=a.trans (Aa gn);refine AV ⟨a.trans (An cd),cd.at (i:=2) Z,cd.at (i:=3) Z,cd.at (i:=7) Z⟩ fun kI991=>FY 16 Z<|B5 7 Z (row_one (cd.at (i:=4) Z)) cd Z Z fun tv mp ee=>DA [0,1,2,3,4,5,6,7,8,9,10,11,12,13,14,15]<|FY 17 Z<|Ar 1 Z<|DA [0,1,2,3,4,5,6,7,8,9,10,11,12,13,14,15,16]<|FY 18 Z<|Ar 1 Z<|G7<|EF ?_;have ig:=ig.mono (Aa (gm.trans (gn.trans ee)));have ih:=ih.mono (Aa (gn.trans ee));have ii:=ii.mono (Aa ee);have a:=a.trans (Aa ee)
    refine AA ((aa++[(d.1.1,d.1.2.1,d.1.2.2)]),(x++[((a0.getD b.toNat Qq2).2)]),(y++[(a0.getD b.toNat Qq2).1]),n0,mm,n2,mo,n1,mn) ⟨mp,((g.mono c).mono a),((k.mono c).mono a),((o.mono c).mono a),ig,ii,ih,h⟩
   rintro⟨ek,el,em,cn,bc,co,bd,cp,be⟩ po ⟨i8,n3,n4,n5,js,jt,ju,h⟩;refine A3<|As ?_;have ef:=i8.rG H;refine Au<|A2 h fun mq h=>Ai (A7 mq)<|Ar 1 Z<|AL ?_;have mr:=i8.AS (i:=0) Z;have ms:=mr.AS (i:=0) Z;have mt:=ms.AS (i:=0) Z;have mu:=mt.AS (i:=0) Z;have h:=Cf.again h es;have ef:=ef.trans (Aa ((Ak (i:=0) Z).trans ((Ak (i:=0) Z).trans ((Ak (i:=0) Z).trans (Ak (i:=0) Z)))));refine AM (el,em,ek,(b+1),co,bd,cp,be,cn,bc,iy) Z ⟨mu,(js.mono ef),(jt.mono ef),(ju.mono ef),h⟩
  refine B4<|AF<|A5 ?_;have h:=Cf.out h es;refine Bg<|AA (x,y,aa,a4,av,a5,aw,ap,ax) ⟨er,(ai.mono e),(ae.mono e),(af.mono e),h⟩
 rintro⟨e4,e5,a8,ep,ci,eq,cj,bg,a3⟩ pp ⟨i9,it,jv,jw,h⟩;have ag:=i9.rG H;refine Aj<|A9 AE.e Z i9 fun pq ja iu je _=>Ad<|B2 (Int×Int×Int×Akc×Int×Akb×Value×Value) (fun⟨ew,ex,ey,ez,e0,e1,eg,eh⟩=>[(2,(Aad b1)),(3,(Aad b2)),(4,(Aad ch)),(12,(Aad ja))]) (fun⟨ew,ex,ey,ez,e0,e1,eg,eh⟩ wr=>FX w [.box ja [No ew,No ex] 28,.row bg 98 3 (a8).length a3,.box ch [No ey,eg,No e0,eh,bg] 52,.box b2 [No 0,No 0] 28,.box b1 [No 0,Aac,No 0,Aac,Aac] 52] wr fun Oz=>AH Ako (gz H w wr Oz) a8 a3/\AJ (.pair .st (.vec Akp)) (gz H w wr Oz) eg ez/\AJ Akn (gz H w wr Oz) eh e1/\(Ei a8) ew ex ey ez e0 e1=some r) ?_ ?_
 ·refine Bx 1 Z ?_;have ag:=ag.trans (Aa je);have jx:=iu.Du hH (i:=3) Z (jw.mono ag);have go:=iu.AS (i:=3) Z;refine Aw h fun ce jy h=>Bf go (V8 _ _ (An go) (hU.mono  Ah) jx jy) ?_;rintro _ pr ⟨gr,rfl,i2⟩ jz j0 gs;have ao:=i2.mono (Dt go jz);refine Ar 3 Z<|Ai (Ae Z AjU Z LN.e)<|WT 3 0 Z j0 Z Z Z (Bk Z (Bk ao.one Kq)) fun ps j1 cf=>Af 0 Z j1 Z fun pt ei cg=>Ad<|Aj<|Ai (Az 0 Z AE.e ei Z)<|Ai (AT (fun _=>BM _))<|Ai (Abe Jh (Nc _ _ _ _))<|Ad<|AQ h ?_ ?_<;>intro j2 h
  ·refine Au<|Ar 1 Z ?_;have ag:=ag.trans (Aa ((Ak (i:=3) Z).trans (gs.trans (cf.trans cg))));have j3:=ei.Du hH (i:=2) Z (jv.mono ag);have gp:=ei.AS (i:=2) Z;refine Aw h fun e2 j4 h=>Bf gp (Uq _ _ (An gp) j3 j4) ?_;rintro _ pu ⟨jf,rfl,i3⟩ j5 j6 gt;have a7:=i3.mono (Dt gp j5);refine Ar 3 Z<|Ai (Ae Z AjU Z M5.e)<|WT 2 2 Z j6 Z Z Z (Bk Z (Bk a7.one Kq)) fun pv j7 en=>Af 0 Z j7 Z fun pw j8 eo=>AL ?_;have ao:=ao.mono (Aa (cf.trans (cg.trans ((Ak (i:=2) Z).trans (gt.trans (en.trans eo))))));have ag:=ag.trans (Aa ((Ak (i:=2) Z).trans (gt.trans (en.trans eo))));have a7:=a7.mono (Aa (en.trans eo));refine AA (e2.2.1,e2.2.2,ce.1.1,ce.1.2,e2.1.1,e2.1.2,gr,jf) ⟨j8,(it.mono ag),ao,a7,h⟩
  refine Ax ?_;have ag:=ag.trans (Aa ((Ak (i:=3) Z).trans (gs.trans (cf.trans cg))));have j9:=ei.AS (i:=2) Z;have ao:=ao.mono (Aa (cf.trans (cg.trans (Ak (i:=2) Z))));have ag:=ag.trans (Aa (Ak (i:=2) Z));refine AA (ce.2.1,ce.2.2,ce.1.1,ce.1.2,0,[],gr,Aac) ⟨j9,(it.mono ag),ao,(AJ.nil _ _),h⟩
 rintro⟨ew,ex,ey,ez,e0,e1,eg,eh⟩ op ⟨ay,he1024_j424,gu,gv,h⟩;refine AB ?_;have az:=ay.rG H;refine Aj<|Ai (Az 0 Z AE.e ay Z)<|Ai (AT (fun _=>BM _))<|Ai (JO Jh (Nc _ _ _ _))<|Ad<|CX h ?_ ?_<;>intro ka h
 ·refine Aj<|Ai (AT (fun _=>U7 _))<|Aw h fun px kb h=>AD ay (CE _ _ (An ay) kb) fun py oq kc n6=>Af 4 Z kc Z fun pz kd n7=>Af 3 Z kd Z fun p0 gq n8=>Ad<|Ay<|Aq ?_
  cases h
  refine Bo (.cell Z AjU Z Lp.e (AG (i:=4) gq Z)) (.cell Z Ajx Z AE.e (AG (i:=3) gq Z)) ⟨gq.ext,_,_,_,Z,(AJ.nil _ _),(AJ.nil _ _),Ck.nil⟩
 refine Ax<|As<|Aj<|Ai (Az 2 Z Lp.e ay Z)<|Ai (AT (fun _=>BM _))<|Af 4 Z ay Z (a:=(Bk Z (Bk (gu.mono az).one (Bk Z (Bk (gv.mono az).one (Bk (row_one (ay.at (i:=1) Z)) Kq)))))) fun p1 ke jg=>Af 3 Z ke Z fun p2 ej jh=>Ad<|Ay ?_
 cases h
 refine Bo (.cell Z AjU Z Lp.e (AG (i:=4) ej Z)) (.cell Z Ajx Z AE.e (AG (i:=3) ej Z)) ?_;have az:=az.trans (Aa (jg.trans jh));exact⟨ej.ext,_,_,_,Z,((gu.mono az).mono  EE),((gv.mono az).mono  EE),(ej.Iq hH (i:=1) Z (he1024_j424.mono az))⟩
def BX(a0:(Int×Akc)×(Int×Akb)×(List Akd)):Option Int:=
 some ((a0.2.2.length:Int))
theorem Fh(a0:(Int×Akc)×(Int×Akb)×(List Akd)){a b c:Value}(_h0_0:AJ (.pair .st (.vec Akp)) H a (a0.1.2))(_h0_1:AJ Akn H b (a0.2.1.2))(e:AJ Ako H c (a0.2.2)){r:Int}(h:BX a0=some r):
  Qqv 22 [.agg #[No a0.1.1,a,No a0.2.1.1,b,c]] w (fun v w'=>v=No r):=by
 refine A1 6 [(0,.agg #[No a0.1.1,a,No a0.2.1.1,b,c])] func22 Z fun hL=>Aj<|CD (t:=52) Z Z hL fun g i d f _=>A8 1 Z<|Aj<|Ai (Ae Z AjU Z Lo.e)<|Ai (Ag 0 Z d Z)<|Ai (Bm e)<|A8 1 Z<|Ay ?_
 cases h
 refine Al Z ⟨d.ext,Z⟩
def Gk(a:List Bool):Option ((List Bool)):=
 some a
def D1(a1:List Int):(List Bool)×Int->Option (((List Bool)×Int) ⊕ ((List Bool))):=fun⟨b,a⟩=>
 if a<(a1.length:Int) then AN (0<=a/\a<(a1.length:Int)) (AN (0<=a1.getD a.toNat Qq2/\a1.getD a.toNat Qq2<(b.length:Int)) (AN (Bz (a+1)) (some (Sum.inl ((b.set ((a1.getD a.toNat Qq2).toNat) true),(a+1)))))) else Qq7 Sum.inr (Gk b)
def Gl(a1:List Int)(s:(List Bool)×Int):Option ((List Bool)):=Go.L.run (D1 a1) s
def EZ(a0:(Int×Akc)×(Int×Akb)×(List Akd))(a1:List Int):Option ((List Bool)):=
 Qq4 (BX ((a0.1.1,a0.1.2),(a0.2.1.1,a0.2.1.2),a0.2.2)) (fun a=>AN (0<=a/\((1:Nat):Int) * a<=281474976710656/\a<=9223372036854775807) ((Gl a1) ((Qzz a.toNat (false:Bool)),0)))
theorem Qm{a0:(Int×Akc)×(Int×Akb)×(List Akd)}{a1:List Int}{e f g k:Value}(ad:AJ (.pair .st (.vec Akp)) H e (a0.1.2))(ae:AJ Akn H f (a0.2.1.2))(af:AJ Ako H g (a0.2.2))(q:AJ (.int .i64) H k a1){r:(List Bool)}(h:EZ a0 a1=some r):
  Qqv 91 [.agg #[No a0.1.1,e,No a0.2.1.1,f,g],k] w (fun v w'=>∃ u0,v=u0/\Ck 4 .bool H w w' u0 r):=by
 refine A1 22 [(0,.agg #[No a0.1.1,e,No a0.2.1.1,f,g]),(1,k)] func91 Z fun hL=>Aj<|CD (t:=52) Z Z hL fun w1 b1 s ay _=>A8 1 Z<|Aj<|Ai (Az 0 Z Lp.e s Z)<|Aw h fun x2 ap h=>AD s (Fh _ _ (An s) (((a0.1.1,a0.1.2),(a0.2.1.1,a0.2.1.2),a0.2.2)) (ad.mono  Ah) (ae.mono  Ah) (af.mono  Ah) ap) fun w3 a6 aq a2=>A2 h fun ar h=>X9 (r:=.bool) (z:=(false:Bool)) AjX (fun _=>Z) hH aq ar fun v4 w4 au av a3 aw=>A8 1 Z<|B2 ((List Bool)×(List Value)) (fun⟨m,d⟩=>[(5,v4)]) (fun⟨m,d⟩ wr=>FX w [.row v4 4 1 (m).length d,.box b1 [No a0.1.1,e,No a0.2.1.1,f,g] 52] wr fun Oz=>AH .bool (gz H w wr Oz) m d/\Gk m=some r) ?_ ?_
 ·refine Bx 1 Z<|Ai (Bm q)<|A8 1 Z<|A4 ?_;obtain⟨u,h⟩:=Ba h;refine B7 ((List Bool)×Int×(List Value)×Nat) (fun⟨c,a,b,n⟩=>[(5,v4),(11,k),(12,No (a1.length:Int)),(13,No a)]) (fun⟨c,a,b,n⟩ wr=>FX w [.row v4 4 1 (c).length b,.box b1 [No a0.1.1,e,No a0.2.1.1,f,g] 52] wr fun Oz=>AH .bool (gz H w wr Oz) c b/\Ia (D1 a1) n (c,a)=some r) (fun⟨c,a,b,n⟩=>n) ((Qzz x2.toNat (false:Bool)),0,au,u) Z ⟨av,aw,h⟩ ?_;rintro⟨c,a,b,nn44⟩ a4 ⟨l,p,h⟩;obtain⟨u,a7,rfl,h,x⟩:=AZ h;refine AI 1 Z<|AB<|AQ h ?_ ?_<;>intro ag h
  ·refine Ax<|As<|AB<|A4<|Aj<|A2 h fun y h=>Bi q a.toNat (GX y) (AX y) ?_;rintro a8 _ rfl ah;refine Ai (Bl ah (hH.trans l.arg))<|A8 1 Z<|Au<|Ar 2 Z<|A2 h fun o h=>KE 0 Z AjX ZT.e l Z ((a1.getD a.toNat Qq2).toNat) (GX o) (AX o) fun a9 ai=>KF 0 ((a1.getD a.toNat Qq2).toNat) true Z Z hH l Z p ai (AX o) Z fun ba aj ak ax al=>AL<|A3<|As<|Au<|A2 h fun am h=>Ai (A7 am)<|Ar 1 Z<|AL ?_;have h:=Cf.again h x;refine AM (_,_,_,_) Z ⟨ak,al,h⟩
  refine B4<|AF<|A5 ?_;have h:=Cf.out h x;refine Bg<|AA (_,_) ⟨l,p,h⟩
 rintro⟨m,d⟩ a5 ⟨aa,ac,h⟩;refine AI 2 Z<|Ay ?_
 cases h
 refine Al Z ⟨aa.ext,_,Z,(aa.Iq hH (i:=0) Z ac)⟩
def Jc(a:List Int):Option ((List Int)):=
 some a
def Hc(a0:List (Int×Int)):(List Int)×Int->Option (((List Int)×Int) ⊕ ((List Int))):=fun⟨b,a⟩=>
 if a<(a0.length:Int) then AN (0<=a/\a<(a0.length:Int)) (AN (Go.E.HK 8 (b.length+([(a0.getD a.toNat Qq2).1]).length)) (AN (Bz (a+1)) (some (Sum.inl ((b++[(a0.getD a.toNat Qq2).1]),(a+1)))))) else Qq7 Sum.inr (Jc b)
def K2(a0:List (Int×Int))(s:(List Int)×Int):Option ((List Int)):=Go.L.run (Hc a0) s
def HC(a0:List (Int×Int)):Option ((List Int)):=
 (K2 a0) (([]:List Int),0)
theorem Pf{a0:List (Int×Int)}{g:Value}(q:AJ Akp H g a0){r:(List Int)}(h:HC a0=some r):
  Qqv 145 [g] w (fun v w'=>∃ u0,v=u0/\Ck 3 (.int .i64) H w w' u0 r):=by
 refine A1 19 [(0,g)] func145 Z fun hL=>AI 1 Z<|Bx 1 Z ?_;obtain⟨ao,au,ap⟩:=DI (.int .i64) H 3 hL;refine Ad<|B2 ((List Int)×Value×(List Value)) (fun⟨k,j,e⟩=>[(3,j)]) (fun⟨k,j,e⟩ wr=>FX w [.row j 3 1 (k).length e] wr fun Oz=>AH (.int .i64) (gz H w wr Oz) k e/\Jc k=some r) ?_ ?_
 ·refine Bx 1 Z<|Ai (Bm q)<|A8 1 Z<|A4 ?_;obtain⟨s,h⟩:=Ba h;refine B7 ((List Int)×Int×Value×(List Value)×Nat) (fun⟨c,a,d,b,n⟩=>[(3,d),(6,g),(7,No (a0.length:Int)),(8,No a)]) (fun⟨c,a,d,b,n⟩ wr=>FX w [.row d 3 1 (c).length b] wr fun Oz=>AH (.int .i64) (gz H w wr Oz) c b/\Ia (Hc a0) n (c,a)=some r) (fun⟨c,a,d,b,n⟩=>n) (([]:List Int),0,Aac,[],s) Z ⟨ao,ap,h⟩ ?_;rintro⟨c,a,d,b,nn46⟩ av ⟨o,f,h⟩;obtain⟨s,ay,rfl,h,t⟩:=AZ h;refine AI 1 Z<|AB<|AQ h ?_ ?_<;>intro ad h
  ·refine Ax<|As<|AB<|A4<|Aj<|A2 h fun u h=>Bi q a.toNat (GX u) (AX u) ?_;rintro az _ ⟨_,_,rfl,rfl,rfl⟩ ae;refine Ai (Cz ae (hH.trans o.arg))<|A9 H7.e Z o fun a1 a2 af z _=>Af 0 Z af Z fun a3 x aa=>Ad<|Au<|Ar 1 Z<|Ai (Ae Z Aj7 Z CR.e)<|Ai (Ag 0 Z x Z)<|B9 [(a0.getD a.toNat Qq2).1] (r:=(.int .i64)) (fun _=>Jn _ _) x (.c1 Z .nil) fun a4 a5 aw ag ab ah=>A2 h fun ai h=>?_;have f:=f.mono (Aa (z.trans (aa.trans ab)));refine Bt (r:=(.int .i64)) 1 c [(a0.getD a.toNat Qq2).1] Z AhD ag Z f ah ai fun aq a6 aj ak ar p=>Ar 1 Z<|AL<|A3<|As<|Au<|A2 h fun al h=>Ai (A7 al)<|Ar 1 Z<|AL ?_;have am:=ak.AS (i:=0) Z;have h:=Cf.again h t;have p:=p.mono (Aa (Ak (i:=0) Z))
   refine AM (_,_,_,_,_) Z ⟨am,p,h⟩
  refine B4<|AF<|A5 ?_;have h:=Cf.out h t;refine Bg<|AA (_,_,_) ⟨o,f,h⟩
 rintro⟨k,j,e⟩ ax ⟨y,ac,h⟩;refine AI 2 Z<|Ay ?_
 cases h
 refine Al Z ⟨y.ext,_,Z,(y.Iq hH (i:=0) Z ac)⟩
def B1(a:List Int):Option ((List Int)):=
 some a
def FI(a:List (Int×Int)):Option ((List Int)):=
 Qq4 (HC a) (fun b=>B1 b)
def Dm(a0:(Int×Akc)×(Int×Akb)×(List Akd))(a1:Qv):(List Int)×Int->Option (((List Int)×Int) ⊕ ((List Int))):=fun⟨b,a⟩=>
 if a<(a0.2.2.length:Int) then AN (0<=a/\a<(a0.2.2.length:Int)) (Qq4 (E0 ((a0.2.2.getD a.toNat Qq2).1,(a0.2.2.getD a.toNat Qq2).2.1,(a0.2.2.getD a.toNat Qq2).2.2) a1.f.2.2.2.1) (fun c=>if 0<c.1 then AN (Go.E.HK 8 (b.length+([a]).length)) (AN (Bz (a+1)) (some (Sum.inl ((b++[a]),(a+1))))) else AN (Bz (a+1)) (some (Sum.inl (b,(a+1)))))) else Qq7 Sum.inr (B1 b)
def FJ(a0:(Int×Akc)×(Int×Akb)×(List Akd))(a1:Qv)(s:(List Int)×Int):Option ((List Int)):=Go.L.run (Dm a0 a1) s
def Dc(a0:(Int×Akc)×(Int×Akb)×(List Akd))(a1:Qv):Option ((List Int)):=
 if a1.f.1=1 then AN (0<=(0:Int)/\(0:Int)<(a1.f.2.1.length:Int)) (Qq4 (G0 (a0.1.1,a0.1.2) (a1.f.2.1.getD ((0:Int).toNat) Qq2)) (fun a=>FI a.1)) else(if a1.f.1=2 then Qq4 (Ef (a0.1.1,a0.1.2) a1.f.2.1) (fun b=>Qq4 (HC b.1) (fun c=>B1 c)) else(if a1.f.1=3 then AN (0<=(0:Int)/\(0:Int)<(a1.f.2.1.length:Int)) (AN (0<=(1:Int)/\(1:Int)<(a1.f.2.1.length:Int)) (Qq4 (Ff (a0.1.1,a0.1.2) (a1.f.2.1.getD ((0:Int).toNat) Qq2) (a1.f.2.1.getD ((1:Int).toNat) Qq2) a1.f.2.2.2.2.1) (fun d=>B1 d.1))) else(if a1.f.1=4 then(FJ a0 a1) (([]:List Int),0) else(if a1.f.1=5 then Qq4 (Fz (a0.2.1.1,a0.2.1.2) a1.f.2.2.1) (fun e=>B1 e.1) else(if a1.f.1=6 then Qq4 (Ey (a0.2.1.1,a0.2.1.2) a1.f.2.2.1 a1.f.2.2.2.2.1 a1.f.2.2.2.2.2.1) (fun g=>B1 g.1) else(if a1.f.1=7 then Qq4 (F2 (a0.2.1.1,a0.2.1.2) a1.f.2.2.1 a1.f.2.2.2.1) (fun h=>B1 h.1) else B1 ([]:List Int)))))))
theorem PI(hU:Gq H){a0:(Int×Akc)×(Int×Akb)×(List Akd)}{a1:Qv}{x y p z aa ab:Value}(al:AJ (.pair .st (.vec Akp)) H x (a0.1.2))(bo:AJ Akn H y (a0.2.1.2))(ck:AJ Ako H p (a0.2.2))(am:AJ .st H z (a1.f.2.1))(cl:AJ .byte H aa (a1.f.2.2.2.1))(_h1_2:AJ .Bu H ab (a1.f.2.2.2.2.2.2)){r:(List Int)}(h:Dc a0 a1=some r):
  Qqv 92 [.agg #[No a0.1.1,x,No a0.2.1.1,y,p],.agg #[No a1.f.1,z,AaM a1.f.2.2.1,aa,No a1.f.2.2.2.2.1,No a1.f.2.2.2.2.2.1,ab]] w (fun v w'=>∃ u0,v=u0/\Ck 3 (.int .i64) H w w' u0 r):=by
 refine A1 121 [(0,.agg #[No a0.1.1,x,No a0.2.1.1,y,p]),(1,.agg #[No a1.f.1,z,AaM a1.f.2.2.1,aa,No a1.f.2.2.2.2.1,No a1.f.2.2.2.2.2.1,ab])] func92 Z fun hL=>Aj<|CD (t:=52) Z Z hL fun w1 b1 fi fs _=>CD (t:=26) Z Z fi fun w2 b2 fj ft _=>A8 1 Z<|Bx 1 Z ?_;obtain⟨b,fu,af⟩:=DI (.int .i64) H 3 fj;refine Ad<|B2 ((List Int)×Value×(List Value)) (fun⟨ak,ag,s⟩=>[(5,ag)]) (fun⟨ak,ag,s⟩ wr=>FX w [.row ag 3 1 (ak).length s,.box b2 [No a1.f.1,z,AaM a1.f.2.2.1,aa,No a1.f.2.2.2.2.1,No a1.f.2.2.2.2.2.1,ab] 26,.box b1 [No a0.1.1,x,No a0.2.1.1,y,p] 52] wr fun Oz=>AH (.int .i64) (gz H w wr Oz) ak s/\B1 ak=some r) ?_ ?_
 ·refine Aj<|Ai (Ae Z Aj3 Z CR.e)<|Ai (Ag 1 Z b Z)<|Ad<|A4<|AI 2 Z<|AQ h ?_ ?_<;>intro dc h
  ·refine B2 (Ake×Value) (fun⟨u,o⟩=>[(6,o)]) (fun⟨u,o⟩ wr=>FX w [.row Aac 3 1 (([]:List Int)).length ([]),.box b2 [No a1.f.1,z,AaM a1.f.2.2.1,aa,No a1.f.2.2.2.2.1,No a1.f.2.2.2.2.2.1,ab] 26,.box b1 [No a0.1.1,x,No a0.2.1.1,y,p] 52] wr fun Oz=>AJ Akp (gz H w wr Oz) o u/\AH (.int .i64) (gz H w wr Oz) (([]:List Int)) ([])/\FI u=some r) ?_ ?_
   ·refine Pw (Qqz 0 6 (.h2 6 (Qqz 7 3 (.h 10 (.q 11 (.tail 12)))) 10 (.h 6 (Qqz 7 3 (.q 11 (.tail 12)))))) mixed Qqb (fun fv br=>?_);have j:=b.call br;have bd:=AR b br;refine CB Z (Ae Z AjU Z LN.e) Z<|CB Z (KG 2 2 Z LN.e j Z Z) Z<|CB Z (Ae Z Aj3 Z Nq.e) Z<|CB Z (Ag 1 Z j Z) Z<|A2 h fun bs h=>HZ Z Z Z Adb am ((0:Int).toNat) (GX bs) (AX bs) Z ?_;rintro fw _ rfl dd;refine CB Z (Bl dd (hH.trans j.arg)) Z<|YB ?_ ?_
    ·refine Aw h fun bp an h=>Cj Z Z Z (fun e7 ah=>N0 _ _ (An (j.call ah)) (hU.mono  Ah) (al.mono  Ah) an) ?_;rintro e7 _ fx ah ao ⟨cm,rfl,cb⟩;have ap:=j.call ah;have cn:=AR j ah;have de:=ap.call ao;have co:=AR ap ao;have ac:=cb.Du hH ap ao;refine D4 3 Z<|Py Z AE.e Z Z de fun fy fz bt be=>D4 1 Z<|BT (fun f0 bu=>?_);have df:=bt.call bu;have bf:=AR bt bu;refine Af 0 Z df Z fun f1 dg bg=>AL ?_;have dh:=dg.AS (i:=0) Z;have af:=af.mono (Aa (bd.trans (cn.trans (co.trans (be.trans (bf.trans (bg.trans (Ak (i:=0) Z))))))));have ac:=ac.mono (Aa (be.trans (bf.trans (bg.trans (Ak (i:=0) Z)))));refine AA (_,_) ⟨dh,ac,af,h⟩
    refine Aw h fun bp an h=>Py Z AE.e Z Z j fun f2 f3 aq cp=>Cj Z Z Z (fun e8 ai=>N0 _ _ (An (aq.call ai)) (hU.mono  Ah) (al.mono  Ah) an) ?_;rintro e8 _ f4 ai ar ⟨cq,rfl,cc⟩;have au:=aq.call ai;have cr:=AR aq ai;have bv:=au.call ar;have cs:=AR au ar;have ad:=cc.Du hH au ar;refine D4 4 Z<|BT (fun f5 bw=>?_);have di:=bv.call bw;have bh:=AR bv bw;refine Af 0 Z di Z fun f6 dj bi=>AL ?_;have dk:=dj.AS (i:=0) Z;have af:=af.mono (Aa (bd.trans (cp.trans (cr.trans (cs.trans (bh.trans (bi.trans (Ak (i:=0) Z))))))));have ad:=ad.mono (Aa (bh.trans (bi.trans (Ak (i:=0) Z))));refine AA (_,_) ⟨dk,ad,af,h⟩
   rintro⟨u,o⟩ fn ⟨av,bq,he142_r3,h⟩;refine Au<|Ar 1 Z<|Aw h fun e9 dl h=>Bf av (Pf _ _ (An av) bq dl) ?_;rintro ct f7 ⟨_,rfl,cd⟩ dm bx cu;obtain⟨dn,bx,cu,aw⟩:=cd.take hH av dm;refine Ar 1 Z<|AL<|A3 ?_;have dp:=bx.AS (i:=1) Z;have aw:=aw.mono (Aa (Ak (i:=1) Z));refine AA (_,_,_) ⟨dp,aw,h⟩
  refine AI 2 Z<|AQ h ?_ ?_<;>intro dq h
  ·refine Aj<|Ai (Ae Z AjU Z LN.e)<|Ai (KG 2 2 Z LN.e b Z Z)<|Ai (Ae Z Aj3 Z Nq.e)<|Ai (Ag 1 Z b Z)<|Aw h fun f8 dr h=>Bf b (Qh (a0:=(a0.1.1,a0.1.2)) _ _ (An b) (hU.mono  Ah) (al.mono  Ah) (am.mono  Ah) dr) ?_;rintro _ f9 ⟨fk,rfl,ce⟩ ds dt fl;have ae:=ce.Du hH b ds;refine Ar 3 Z<|A9 AE.e Z dt fun ga gb du cv _=>Ar 1 Z<|Af 0 Z du Z fun gc ax cw=>Ad<|Au<|Ar 1 Z<|Aw h fun fa dv h=>?_;have ae:=ae.mono (Aa (cv.trans cw));refine Bf ax (Pf _ _ (An ax) ae dv) ?_;rintro cx gd ⟨_,rfl,cf⟩ dw bz cy;obtain⟨dx,bz,cy,ay⟩:=cf.take hH ax dw;refine Ar 1 Z<|AL<|A3 ?_;have dy:=bz.AS (i:=1) Z;have dz:=dy.AS (i:=1) Z;have ay:=ay.mono (Aa ((Ak (i:=1) Z).trans (Ak (i:=1) Z)));refine AA (_,_,_) ⟨dz,ay,h⟩
  refine AI 2 Z<|AQ h ?_ ?_<;>intro d0 h
  ·refine Pw (Qqz 0 12 (.h 12 (Qqz 13 4 (.tail 17)))) mixed Qqb (fun ge d1=>?_);have e:=b.call d1;refine CB Z (Ae Z AjU Z LN.e) Z<|CB Z (KG 2 2 Z LN.e e Z Z) Z<|CB Z (Ae Z Aj3 Z Nq.e) Z<|CB Z (Ag 1 Z e Z) Z<|A2 h fun b0 h=>HZ Z Z Z Adb am ((0:Int).toNat) (GX b0) (AX b0) Z ?_;rintro gf _ rfl d2;refine CB Z (Bl d2 (hH.trans e.arg)) Z<|CB Z (Ae Z Aj3 Z Nq.e) Z<|CB Z (Ag 1 Z e Z) Z<|A2 h fun b3 h=>HZ Z Z Z Adb am ((1:Int).toNat) (GX b3) (AX b3) Z ?_;rintro gg _ rfl d3;refine CB Z (Bl d3 (hH.trans e.arg)) Z<|CB Z (Ae Z Aj3 Z CR.e) Z<|CB Z (Ag 1 Z e Z) Z<|Aw h fun fb d4 h=>Cj Z Z Z (fun fc az=>Rz _ _ (An (e.call az)) (hU.mono  Ah) (al.mono  Ah) d4) ?_;rintro fc _ gh az a2 ⟨cz,rfl,cg⟩
   have a3:=e.call az;have a4:=a3.call a2;have c0:=AR a3 a2;obtain⟨d5,a4,c0,a5⟩:=cg.take hH a3 a2;refine D4 4 Z<|BT (fun gi b4=>?_);have d6:=a4.call b4;have c2:=AR a4 b4;refine AL<|A3 ?_;have d7:=d6.AS (i:=1) Z;have a5:=a5.mono (Aa (c2.trans (Ak (i:=1) Z)));refine AA (_,_,_) ⟨d7,a5,h⟩
  refine AI 2 Z<|AQ h ?_ ?_<;>intro d8 h
  ·refine Aj<|Ai (Ae Z AjU Z Lo.e)<|Ai (Ag 2 Z b Z)<|Ai (Bm ck)<|A8 1 Z<|A4 ?_;obtain⟨a6,h⟩:=Ba h;refine B7 ((List Int)×Int×Value×(List Value)×Nat) (fun⟨g,a,k,c,n⟩=>[(3,(Aad b2)),(5,k),(63,p),(64,No (a0.2.2.length:Int)),(65,No a)]) (fun⟨g,a,k,c,n⟩ wr=>FX w [.row k 3 1 (g).length c,.box b2 [No a1.f.1,z,AaM a1.f.2.2.1,aa,No a1.f.2.2.2.2.1,No a1.f.2.2.2.2.2.1,ab] 26,.box b1 [No a0.1.1,x,No a0.2.1.1,y,p] 52] wr fun Oz=>AH (.int .i64) (gz H w wr Oz) g c/\Ia (Dm a0 a1) n (g,a)=some r) (fun⟨g,a,k,c,n⟩=>n) (([]:List Int),0,Aac,[],a6) Z ⟨b,af,h⟩ ?_;rintro⟨g,a,k,c,nn221⟩ fo ⟨a7,d,h⟩;obtain⟨a6,gj,rfl,h,a8⟩:=AZ h;refine AI 1 Z<|AB<|AQ h ?_ ?_<;>intro d9 h
   ·refine Ax<|As<|AB<|A4<|Bx 1 Z<|A2 h fun b5 h=>Bi ck a.toNat (GX b5) (AX b5) ?_;rintro gk _ ⟨_,_,rfl,⟨e225v0,rfl,e225h0⟩,⟨_,_,rfl,⟨e225v1,rfl,e225h1⟩,⟨e225v2,rfl,e225h2⟩⟩⟩ ea;refine Ai (Cz ea (hH.trans a7.arg))<|A9 G8.e Z a7 fun gl gm eb bj _=>Ar 1 Z<|Af 0 Z eb Z (a:=(Bk e225h0.one (Bk e225h1.one (Bk e225h2.one Kq)))) fun gn aj bk=>Ad<|Aj<|Ai (Az 0 Z G8.e aj Z)<|Ai (Ae Z Aj3 Z IF.e)<|Ai (Ag 2 Z aj Z)<|Aw h fun go ec h=>AD aj (PE (a0:=((a0.2.2.getD a.toNat Qq2).1,(a0.2.2.getD a.toNat Qq2).2.1,(a0.2.2.getD a.toNat Qq2).2.2)) _ _ (An aj) (e225h0.mono  Ah) (e225h1.mono  Ah) (e225h2.mono  Ah) (cl.mono  Ah) ec) fun gp fp ed bl=>Ar 3 Z<|A9 AE.e Z ed fun gq gr ee bm _=>Ar 1 Z<|Af 0 Z ee Z fun gs b6 bn=>Ad<|AI 2 Z ?_
    refine AQ h ?_ ?_<;>intro ef h
    ·refine Au<|Ar 2 Z<|B9 [a] (r:=(.int .i64)) (fun _=>Jn _ _) b6 (.c1 Z .nil) fun gt gu fq eg c3 eh=>A2 h fun ei h=>?_;have d:=d.mono (Aa (bj.trans (bk.trans (bl.trans (bm.trans (bn.trans c3))))));refine Bt (r:=(.int .i64)) 2 g [a] Z AhD eg Z d eh ei fun fd gv ej ek fm a9=>Ar 1 Z<|AL<|A3<|As<|Au<|A2 h fun el h=>Ai (A7 el)<|Ar 1 Z<|AL ?_;have em:=ek.AS (i:=0) Z;have en:=em.AS (i:=0) Z;have h:=Cf.again h a8;have a9:=a9.mono (Aa ((Ak (i:=0) Z).trans (Ak (i:=0) Z)));refine AM (_,_,_,_,_) Z ⟨en,a9,h⟩
    refine Ax<|A3<|As<|Au<|A2 h fun eo h=>Ai (A7 eo)<|Ar 1 Z<|AL ?_;have ep:=b6.AS (i:=0) Z;have eq:=ep.AS (i:=0) Z;have h:=Cf.again h a8;have d:=d.mono (Aa (bj.trans (bk.trans (bl.trans (bm.trans (bn.trans ((Ak (i:=0) Z).trans (Ak (i:=0) Z))))))));refine AM (_,_,_,_,_) Z ⟨eq,d,h⟩
   refine B4<|AF<|A5 ?_;have h:=Cf.out h a8;refine Bg<|A3<|AA (_,_,_) ⟨a7,d,h⟩
  refine AI 2 Z<|AQ h ?_ ?_<;>intro er h
  ·refine Au<|Ai (Ae Z AjU Z M5.e)<|Ai (KG 2 2 Z M5.e b Z Z)<|Ai (Ae Z Aj3 Z HO.e)<|Ai (Ag 1 Z b Z)<|Aw h fun fe es h=>Bf b (QG (a0:=(a0.2.1.1,a0.2.1.2)) _ _ (An b) (bo.mono  Ah) es) ?_;rintro _ gw ⟨c4,rfl,ch⟩ et b7 c5;obtain⟨eu,b7,c5,ba⟩:=ch.take hH b et;refine Ar 4 Z<|AL<|A3 ?_;have ev:=b7.AS (i:=1) Z;have ba:=ba.mono (Aa (Ak (i:=1) Z));refine AA (_,_,_) ⟨ev,ba,h⟩
  refine AI 2 Z<|AQ h ?_ ?_<;>intro ew h
  ·refine Au<|Ai (Ae Z AjU Z M5.e)<|Ai (KG 2 2 Z M5.e b Z Z)<|Ai (Ae Z Aj3 Z HO.e)<|Ai (Ag 1 Z b Z)<|Ai (Ae Z Aj3 Z CR.e)<|Ai (Ag 1 Z b Z)<|Ai (Ae Z Aj3 Z CR.e)<|Ai (Ag 1 Z b Z)<|Aw h fun ff ex h=>Bf b (PA (a0:=(a0.2.1.1,a0.2.1.2)) _ _ (An b) (bo.mono  Ah) ex) ?_;rintro _ gx ⟨c6,rfl,ci⟩ ey b8 c7;obtain⟨ez,b8,c7,bb⟩:=ci.take hH b ey;refine Ar 4 Z<|AL<|A3 ?_;have e0:=b8.AS (i:=1) Z;have bb:=bb.mono (Aa (Ak (i:=1) Z));refine AA (_,_,_) ⟨e0,bb,h⟩
  refine AI 2 Z<|AQ h ?_ ?_<;>intro e1 h
  ·refine Au<|Ai (Ae Z AjU Z M5.e)<|Ai (KG 2 2 Z M5.e b Z Z)<|Ai (Ae Z Aj3 Z HO.e)<|Ai (Ag 1 Z b Z)<|Ai (Ae Z Aj3 Z IF.e)<|Ai (Ag 1 Z b Z)<|Aw h fun fg e2 h=>Bf b (QH (a0:=(a0.2.1.1,a0.2.1.2)) _ _ (An b) (bo.mono  Ah) (cl.mono  Ah) e2) ?_;rintro _ gy ⟨c8,rfl,cj⟩ e3 b9 c9;obtain⟨e4,b9,c9,bc⟩:=cj.take hH b e3;refine Ar 4 Z<|AL<|A3 ?_;have e5:=b9.AS (i:=1) Z;have bc:=bc.mono (Aa (Ak (i:=1) Z));refine AA (_,_,_) ⟨e5,bc,h⟩
  refine Ax<|A3<|AA (_,_,_) ⟨b,af,h⟩
 rintro⟨ak,ag,s⟩ fr ⟨ca,da,h⟩;refine AI 2 Z<|Ay ?_
 cases h
 refine Al Z ⟨ca.ext,_,Z,(ca.Iq hH (i:=0) Z da)⟩
end
def CF(a:List Bool):Option ((List Bool)):=
 some a
def CG(a:Int)(b:List Bool):Option (((List Bool)×Int) ⊕ ((List Bool))):=
 AN (Bz (a+1)) (some (Sum.inl (b,(a+1))))
def BY(a1:Qv)(d:Int)(c:(List Bool)):(List Bool)×Int->Option (((List Bool)×Int) ⊕ (((List Bool)×Int) ⊕ ((List Bool)))):=fun⟨b,a⟩=>
 if a<(c.length:Int) then AN (0<=a/\a<(c.length:Int)) (if a1.f.1=8 then AN (0<=a/\a<(b.length:Int)) (AN (0<=a/\a<(b.length:Int)) (AN (Bz (a+1)) (some (Sum.inl ((b.set a.toNat (bif b.getD a.toNat Qq2 then c.getD a.toNat Qq2 else false)),(a+1)))))) else AN (0<=a/\a<(b.length:Int)) (AN (0<=a/\a<(b.length:Int)) (AN (Bz (a+1)) (some (Sum.inl ((b.set a.toNat (bif b.getD a.toNat Qq2 then true else c.getD a.toNat Qq2)),(a+1))))))) else Qq7 Sum.inr ((CG d) b)
def D8(a1:Qv)(a:Int)(b:(List Bool))(s:(List Bool)×Int):Option (((List Bool)×Int) ⊕ ((List Bool))):=Go.L.run (BY a1 a b) s
def BF(a0:(Int×Akc)×(Int×Akb)×(List Akd))(a1:Qv)(self:Akg->Qv->Option ((List Bool))):(List Bool)×Int->Option (((List Bool)×Int) ⊕ ((List Bool))):=fun⟨b,a⟩=>
 if a<((a1.f.2.2.2.2.2.2.drop (1:Int).toNat).length:Int) then AN (0<=a/\a<((a1.f.2.2.2.2.2.2.drop (1:Int).toNat).length:Int)) (Qq4 (self ((a0.1.1,a0.1.2),(a0.2.1.1,a0.2.1.2),a0.2.2) ((a1.f.2.2.2.2.2.2.drop (1:Int).toNat).getD a.toNat Qq2)) (fun c=>(D8 a1 a c) (b,0))) else Qq7 Sum.inr (CF b)
def CH(a0:(Int×Akc)×(Int×Akb)×(List Akd))(a1:Qv)(self:Akg->Qv->Option ((List Bool)))(s:(List Bool)×Int):Option ((List Bool)):=Go.L.run (BF a0 a1 self) s
def Ce(a0:(Int×Akc)×(Int×Akb)×(List Akd))(a1:Qv)(self:Akg->Qv->Option ((List Bool)))(a:List Bool):Option ((List Bool)):=
 AN (0<=(1:Int)/\(1:Int)<=(a1.f.2.2.2.2.2.2.length:Int)) ((CH a0 a1 self) (a,0))
def BZ(a0:(Int×Akc)×(Int×Akb)×(List Akd))(a1:Qv)(self:Akg->Qv->Option ((List Bool)))(c:(List Bool)):(List Bool)×Int->Option (((List Bool)×Int) ⊕ ((List Bool))):=fun⟨b,a⟩=>
 if a<(c.length:Int) then AN (0<=a/\a<(b.length:Int)) (AN (0<=a/\a<(b.length:Int)) (AN (Bz (a+1)) (some (Sum.inl ((b.set a.toNat (!(b.getD a.toNat Qq2))),(a+1)))))) else Qq7 Sum.inr ((Ce a0 a1 self) b)
def D9(a0:(Int×Akc)×(Int×Akb)×(List Akd))(a1:Qv)(self:Akg->Qv->Option ((List Bool)))(a:(List Bool))(s:(List Bool)×Int):Option ((List Bool)):=Go.L.run (BZ a0 a1 self a) s
def CC(self:Akg->Qv->Option ((List Bool)))(a0:(Int×Akc)×(Int×Akb)×(List Akd))(a1:Qv):Option ((List Bool)):=
 Qq4 (GA a1.f.1) (fun c=>if c then Qq4 (Dc ((a0.1.1,a0.1.2),(a0.2.1.1,a0.2.1.2),a0.2.2) a1) (fun d=>Qq4 (EZ ((a0.1.1,a0.1.2),(a0.2.1.1,a0.2.1.2),a0.2.2) d) (fun b=>some b)) else AN (0<=(0:Int)/\(0:Int)<(a1.f.2.2.2.2.2.2.length:Int)) (Qq4 (self ((a0.1.1,a0.1.2),(a0.2.1.1,a0.2.1.2),a0.2.2) (a1.f.2.2.2.2.2.2.getD ((0:Int).toNat) Qq2)) (fun a=>if a1.f.1=10 then(D9 a0 a1 self a) (a,0) else(Ce a0 a1 self) a)))
def FK(self:Akg->Qv->Option ((List Bool))):Prop:=∀ (w:World) (H:PH) (hH:Le H (hp w)) (hU:Gq H) {a0:(Int×Akc)×(Int×Akb)×(List Akd)} {a1:Qv} {a:Value} {b:Value} {c:Value} {d:Value} {e:Value} {g:Value} (j:AJ (.pair .st (.vec Akp)) H a (a0.1.2)) (k:AJ Akn H b (a0.2.1.2)) (l:AJ Ako H c (a0.2.2)) (m:AJ .st H d (a1.f.2.1)) (n:AJ .byte H e (a1.f.2.2.2.1)) (o:AJ .Bu H g (a1.f.2.2.2.2.2.2)) {r:(List Bool)} (h:self a0 a1=some r),Ok prog 51 [.agg #[No a0.1.1,a,No a0.2.1.1,b,c],.agg #[No a1.f.1,d,AaM a1.f.2.2.1,e,No a1.f.2.2.2.2.1,No a1.f.2.2.2.2.2.1,g]] w (fun v w'=>Ext w w'/\∃ i,v=i/\Ck 4 .bool H w w' i r)
def Br:Nat->Akg->Qv->Option ((List Bool))
 | 0=>fun _ _=>none
 | n+1=>CC (Br n)
def Fi:Akg->Qv->Option ((List Bool)):=Br 1000
theorem Nt(self:Akg->Qv->Option ((List Bool)))(hself:FK self):FK (CC self):=by
 intro w H hH hU a0 a1 e g k ad ae af au av aw dc dd a8 r h;unfold FK at hself;refine A1 88 [(0,.agg #[No a0.1.1,e,No a0.2.1.1,g,k]),(1,.agg #[No a1.f.1,ad,AaM a1.f.2.2.1,ae,No a1.f.2.2.2.2.1,No a1.f.2.2.2.2.2.1,af])] func51 Z fun hL=>Aj<|CD (t:=52) Z Z hL fun w1 b1 ds d7 _=>CD (t:=26) Z Z ds fun w2 b2 bw d8 _=>A8 1 Z<|AB<|Aj<|Ai (Ae Z Aj3 Z CR.e)<|Ai (Ag 0 Z bw Z)<|Aw h fun x3 dt h=>AD bw (ME _ _ (An bw) dt) fun w4 ep am d9=>Ad<|B8 h ?_ ?_<;>intro du h
 ·refine Ex (Qqz 0 3 (.h 3 (.h 4 (.q 5 (.tail 6))))) mixed Qqb (fun w7 dv=>?_);have bj:=am.call dv
  iterate 2 refine CB Z (Az 1 Z Lp.e bj Z) Z ?_
  refine CB Z (Az 0 Z By.e bj Z) Z<|Aw h fun x9 dw h=>Cj Z Z Z (fun dx a9=>PI _ _ (An (bj.call a9)) (hU.mono  Ah) (au.mono  Ah) (av.mono  Ah) (aw.mono  Ah) (dc.mono  Ah) (dd.mono  Ah) (a8.mono  Ah) dw) ?_;rintro dx dz eq a9 ba ⟨_,rfl,bx⟩;have bb:=bj.call a9;have ax:=bb.call ba;have d0:=AR bb ba;have s:=bx.Du hH bb ba;refine Aw h fun er de h=>Cj Z Z Z (fun dy an=>Qm _ _ (An (ax.call an)) (au.mono  Ah) (av.mono  Ah) (aw.mono  Ah) (s.mono (Aa (AR ax an))) de) ?_;rintro dy d1 es an bc ⟨_,rfl,bz⟩;have bd:=ax.call an;have ck:=AR ax an;have s:=s.mono (Aa ck);have be:=bd.call bc;have bk:=AR bd bc;obtain⟨ea,be,bk,bf⟩:=bz.take hH bd bc;have s:=s.mono (Aa bk);refine D4 1 Z<|BT (fun et b0=>?_);have b3:=be.call b0;have bl:=AR be b0;have s:=s.mono (Aa bl);have bf:=bf.mono (Aa bl);refine Ad<|Ay<|Aq ?_
  cases h
  refine Al Z ⟨b3.ext,_,Z,(b3.Iq hH (i:=0) Z bf)⟩
 refine Ax<|As<|Aj<|Ai (Az 1 Z Lp.e am Z)<|A8 2 Z<|Bx 1 Z<|Ai (Ae Z Aj3 Z JP.e)<|Ai (Ag 0 Z am Z)<|A2 h fun b4 h=>Bi a8 ((0:Int).toNat) (GX b4) (AX b4) ?_;rintro eu _ e20t0 df;obtain⟨_,_,rfl,rfl,⟨_,_,rfl,⟨e20v1,rfl,e20h1⟩,⟨_,_,rfl,rfl,⟨_,_,rfl,⟨e20v3,rfl,e20h3⟩,⟨_,_,rfl,rfl,⟨_,_,rfl,rfl,⟨e20v6,rfl,e20h6⟩⟩⟩⟩⟩⟩⟩:=Go.E.Rp.HQ e20t0;refine Ai (Cz df (hH.trans am.arg))<|Aw h fun bm dg h=>YU [.agg #[No a0.1.1,e,No a0.2.1.1,g,k]] [] Z Z am (hself _ _ (An am) (hU.mono  Ah) (au.mono  Ah) (av.mono  Ah) (aw.mono  Ah) (e20h1.mono  Ah) (e20h3.mono  Ah) (e20h6.mono  Ah) dg) ?_;rintro d ev ⟨_,rfl,b5⟩ dh ao cl;obtain⟨b6,ao,cl,b7⟩:=b5.take hH am dh;refine A8 1 Z ?_
 refine B2 ((List Bool)×(List Value)) (fun⟨aq,ah⟩=>[(3,(Aad b2)),(5,.func (.func 51) #[.agg #[No a0.1.1,e,No a0.2.1.1,g,k]] #[]),(6,d)]) (fun⟨aq,ah⟩ wr=>FX w [.row d 4 1 (aq).length ah,.box b2 [No a1.f.1,ad,AaM a1.f.2.2.1,ae,No a1.f.2.2.2.2.1,No a1.f.2.2.2.2.2.1,af] 26,.box b1 [No a0.1.1,e,No a0.2.1.1,g,k] 52] wr fun Oz=>AH .bool (gz H w wr Oz) aq ah/\(Ce a0 a1 self) aq=some r) ?_ ?_
 ·refine Aj<|Ai (Ae Z Aj3 Z CR.e)<|Ai (Ag 1 Z ao Z)<|A8 1 Z<|AQ h ?_ ?_<;>intro di h
  ·refine Bx 1 Z<|Ai (Qw 0 Z ao Z)<|A8 1 Z<|A4 ?_;obtain⟨b8,h⟩:=Ba h;refine B7 ((List Bool)×Int×(List Value)×Nat) (fun⟨ac,c,ab,n⟩=>[(3,(Aad b2)),(5,.func (.func 51) #[.agg #[No a0.1.1,e,No a0.2.1.1,g,k]] #[]),(6,d),(32,No (bm.length:Int)),(33,No c)]) (fun⟨ac,c,ab,n⟩ wr=>FX w [.row d 4 1 (ac).length ab,.box b2 [No a1.f.1,ad,AaM a1.f.2.2.1,ae,No a1.f.2.2.2.2.1,No a1.f.2.2.2.2.2.1,af] 26,.box b1 [No a0.1.1,e,No a0.2.1.1,g,k] 52] wr fun Oz=>AH .bool (gz H w wr Oz) ac ab/\Ia (BZ a0 a1 self bm) n (ac,c)=some r) (fun⟨ac,c,ab,n⟩=>n) (bm,0,b6,b8) Z ⟨ao,b7,h⟩ ?_;rintro⟨ac,c,ab,nn67⟩ eb ⟨ay,az,h⟩;obtain⟨b8,ew,rfl,h,b9⟩:=AZ h;refine AI 1 Z<|AB<|AQ h ?_ ?_<;>intro dj h
   ·refine Ax<|As<|AB<|A4<|AI 2 Z<|Au<|Ar 4 Z<|A2 h fun ca h=>Bi (ay.RU hH (i:=0) Z az) c.toNat (GX ca) (AX ca) ?_;rintro ex _ rfl dk;refine Ai (Bl dk (Le.refl _))<|Ar 1 Z<|A2 h fun bg h=>KE 0 Z AjX ZT.e ay Z c.toNat (GX bg) (AX bg) fun ey dl=>KF 0 c.toNat (!(ac.getD c.toNat Qq2)) Z Z hH ay Z az dl (AX bg) Z fun ez dm dn d2 dp=>AL<|A3<|As<|Au<|A2 h fun dq h=>Ai (A7 dq)<|Ar 1 Z<|AL ?_;have h:=Cf.again h b9;refine AM (_,_,_,_) Z ⟨dn,dp,h⟩
   refine B4<|AF<|A5 ?_;have h:=Cf.out h b9;refine Bg<|AA (_,_) ⟨ay,az,h⟩
  refine Ax<|AA (_,_) ⟨ao,b7,h⟩
 rintro⟨aq,ah⟩ ec ⟨cb,cm,h⟩;refine B2 ((List Bool)×(List Value)) (fun⟨ap,ai⟩=>[(6,d)]) (fun⟨ap,ai⟩ wr=>FX w [.row d 4 1 (ap).length ai,.box b2 [No a1.f.1,ad,AaM a1.f.2.2.1,ae,No a1.f.2.2.2.2.1,No a1.f.2.2.2.2.2.1,af] 26,.box b1 [No a0.1.1,e,No a0.2.1.1,g,k] 52] wr fun Oz=>AH .bool (gz H w wr Oz) ap ai/\CF ap=some r) ?_ ?_
 ·refine Aj<|Ai (Ae Z Aj3 Z JP.e)<|Ai (Ag 1 Z cb Z)<|A2 h fun cn h=>YJ a8 cn fun bh bn=>Ai (Bm bn)<|A8 1 Z<|A4 ?_;obtain⟨bi,h⟩:=Ba h;refine B7 ((List Bool)×Int×(List Value)×Nat) (fun⟨y,b,u,n⟩=>[(3,(Aad b2)),(5,.func (.func 51) #[.agg #[No a0.1.1,e,No a0.2.1.1,g,k]] #[]),(6,d),(47,bh),(48,No ((a1.f.2.2.2.2.2.2.drop (1:Int).toNat).length:Int)),(49,No b)]) (fun⟨y,b,u,n⟩ wr=>FX w [.row d 4 1 (y).length u,.box b2 [No a1.f.1,ad,AaM a1.f.2.2.1,ae,No a1.f.2.2.2.2.1,No a1.f.2.2.2.2.2.1,af] 26,.box b1 [No a0.1.1,e,No a0.2.1.1,g,k] 52] wr fun Oz=>AH .bool (gz H w wr Oz) y u/\Ia (BF a0 a1 self) n (y,b)=some r) (fun⟨y,b,u,n⟩=>n) (aq,0,ah,bi) Z ⟨cb,cm,h⟩ ?_;rintro⟨y,b,u,nn263⟩ d3 ⟨a2,o,h⟩;obtain⟨bi,cc,rfl,h,bo⟩:=AZ h;refine AI 1 Z<|AB<|AQ h ?_ ?_<;>intro co h
  ·refine Ax<|As<|B2 ((List Bool)×(List Value)) (fun⟨aj,aa⟩=>[(3,(Aad b2)),(5,.func (.func 51) #[.agg #[No a0.1.1,e,No a0.2.1.1,g,k]] #[]),(6,d),(47,bh),(48,No ((a1.f.2.2.2.2.2.2.drop (1:Int).toNat).length:Int)),(49,No b)]) (fun⟨aj,aa⟩ wr=>FX w [.row d 4 1 (aj).length aa,.box b2 [No a1.f.1,ad,AaM a1.f.2.2.1,ae,No a1.f.2.2.2.2.1,No a1.f.2.2.2.2.2.1,af] 26,.box b1 [No a0.1.1,e,No a0.2.1.1,g,k] 52] wr fun Oz=>AH .bool (gz H w wr Oz) aj aa/\(CG b) aj=some cc) ?_ ?_
   ·refine A4<|Aj<|A2 h fun bp h=>Bi bn b.toNat (GX bp) (AX bp) ?_;rintro ed _ e321t0 cp;obtain⟨_,_,rfl,rfl,⟨_,_,rfl,⟨e321v1,rfl,e321h1⟩,⟨_,_,rfl,rfl,⟨_,_,rfl,⟨e321v3,rfl,e321h3⟩,⟨_,_,rfl,rfl,⟨_,_,rfl,rfl,⟨e321v6,rfl,e321h6⟩⟩⟩⟩⟩⟩⟩:=Go.E.Rp.HQ e321t0;refine Ai (Cz cp (hH.trans a2.arg))<|A9 By.e Z a2 ?_;intro ee dr cq cd _;have o:=o.mono (Aa cd);refine Af 0 Z cq Z (a:=(Bk Z (Bk e321h1.one (Bk Z (Bk e321h3.one (Bk Z (Bk Z (Bk e321h6.one Kq)))))))) ?_;intro ef ak ce;have o:=o.mono (Aa ce);refine Ad<|Bx 1 Z<|Ai (Az 0 Z By.e ak Z)<|Aw h fun ag cr h=>YU [.agg #[No a0.1.1,e,No a0.2.1.1,g,k]] [] Z Z ak (hself _ _ (An ak) (hU.mono  Ah) (au.mono  Ah) (av.mono  Ah) (aw.mono  Ah) (e321h1.mono  Ah) (e321h3.mono  Ah) (e321h6.mono  Ah) cr) ?_;rintro a7 eg ⟨_,rfl,bv⟩ cs ct cf;have ar:=bv.Du hH ak cs;have o:=o.mono (Aa cf);refine Ai (Bm ar)<|A8 1 Z ?_
    refine A4 ?_;obtain⟨a3,h⟩:=Ba h;refine B7 ((List Bool)×Int×(List Value)×Nat) (fun⟨l,a,x,n⟩=>[(3,(Aad b2)),(5,.func (.func 51) #[.agg #[No a0.1.1,e,No a0.2.1.1,g,k]] #[]),(6,d),(47,bh),(48,No ((a1.f.2.2.2.2.2.2.drop (1:Int).toNat).length:Int)),(49,No b),(55,a7),(56,No (ag.length:Int)),(57,No a)]) (fun⟨l,a,x,n⟩ wr=>FX w [.box dr [No (((a1.f.2.2.2.2.2.2.drop (1:Int).toNat).getD b.toNat Qq2).f.1),e321v1,.string ⟨(((a1.f.2.2.2.2.2.2.drop (1:Int).toNat).getD b.toNat Qq2).f.2.2.1).toArray⟩,e321v3,No (((a1.f.2.2.2.2.2.2.drop (1:Int).toNat).getD b.toNat Qq2).f.2.2.2.2.1),No (((a1.f.2.2.2.2.2.2.drop (1:Int).toNat).getD b.toNat Qq2).f.2.2.2.2.2.1),e321v6] 26,.row d 4 1 (l).length x,.box b2 [No a1.f.1,ad,AaM a1.f.2.2.1,ae,No a1.f.2.2.2.2.1,No a1.f.2.2.2.2.2.1,af] 26,.box b1 [No a0.1.1,e,No a0.2.1.1,g,k] 52] wr fun Oz=>AJ .bool (gz H w wr Oz) a7 ag/\AH .bool (gz H w wr Oz) l x/\Ia (BY a1 b ag) n (l,a)=some cc) (fun⟨l,a,x,n⟩=>n) (y,0,u,a3) Z ⟨ct,ar,o,h⟩ ?_
    rintro⟨l,a,x,nn350⟩ d4 ⟨p,m,v,h⟩;obtain⟨a3,eh,rfl,h,a4⟩:=AZ h;refine AI 1 Z<|AB<|AQ h ?_ ?_<;>intro cu h
    ·refine Ax<|As<|AB<|A4<|Bx 1 Z<|A2 h fun bq h=>Bi m a.toNat (GX bq) (AX bq) ?_;rintro ei _ rfl cv;refine Ai (Bl cv (An p))<|A8 2 Z<|Aj<|Ai (Ae Z Aj3 Z CR.e)<|Ai (Ag 2 Z p Z)<|A8 1 Z<|AQ h ?_ ?_<;>intro cw h
     ·refine Au<|Ar 4 Z<|A2 h fun br h=>Bi (p.RU hH (i:=1) Z v) a.toNat (GX br) (AX br) ?_;rintro ej _ rfl cx;refine Ai (Bl cx (Le.refl _))<|Ar 1 Z<|U0 1 6 Z Z Z Z Z Z Z<|A2 h fun a5 h=>KE 1 Z AjX ZT.e p Z a.toNat (GX a5) (AX a5) fun ek cy=>KF 1 a.toNat (bif l.getD a.toNat Qq2 then ag.getD a.toNat Qq2 else false) Z Z hH p Z v cy (AX a5) Z ?_;intro el cz c0 cg c1;have m:=m.mono (Aa cg);refine AL<|A3<|As<|Au<|A2 h fun c2 h=>Ai (A7 c2)<|Ar 1 Z<|AL ?_;have h:=Cf.again h a4;refine AM (_,_,_,_) Z ⟨c0,m,c1,h⟩
     refine Au<|Ar 4 Z<|A2 h fun bs h=>Bi (p.RU hH (i:=1) Z v) a.toNat (GX bs) (AX bs) ?_;rintro em _ rfl c3;refine Ai (Bl c3 (Le.refl _))<|Ar 1 Z<|AaX 1 6 Z Z Z Z Z Z Z<|A2 h fun a6 h=>KE 1 Z AjX ZT.e p Z a.toNat (GX a6) (AX a6) fun en c4=>KF 1 a.toNat (bif l.getD a.toNat Qq2 then true else ag.getD a.toNat Qq2) Z Z hH p Z v c4 (AX a6) Z ?_;intro eo c5 c6 ch c7;have m:=m.mono (Aa ch);refine AL<|A3<|As<|Au<|A2 h fun c8 h=>Ai (A7 c8)<|Ar 1 Z<|AL ?_;have h:=Cf.again h a4;refine AM (_,_,_,_) Z ⟨c6,m,c7,h⟩
    refine B4<|AF<|A5 ?_;have h:=Cf.out h a4;refine Bg<|A3 ?_;have c9:=p.AS (i:=0) Z;have v:=v.mono (Aa (Ak (i:=0) Z));refine AA (_,_) ⟨c9,v,h⟩
   rintro⟨aj,aa⟩ d5 ⟨da,ci,h⟩;refine Au<|A2 h fun db h=>Ai (A7 db)<|Ar 1 Z<|AL ?_;have h:=Cf.again h bo;refine AM (_,_,_,_) Z ⟨da,ci,h⟩
  refine B4<|AF<|A5 ?_;have h:=Cf.out h bo;refine Bg<|AA (_,_) ⟨a2,o,h⟩
 rintro⟨ap,ai⟩ d6 ⟨bt,cj,h⟩;refine AI 2 Z<|Ay ?_
 cases h
 refine Al Z ⟨bt.ext,_,Z,(bt.Iq hH (i:=0) Z cj)⟩
theorem On(n:Nat):FK (Br n):=by
 induction n with
 | zero=>unfold FK;intros;rename_i h;cases h
 | succ n ih=>exact Nt (Br n) ih
section
variable(w:World)(H:PH)(hH:Le H (hp w)) include hH
theorem Pg(hU:Gq H){a0:(Int×Akc)×(Int×Akb)×(List Akd)}{a1:Qv}{a b c d e g:Value}(i:AJ (.pair .st (.vec Akp)) H a (a0.1.2))(j:AJ Akn H b (a0.2.1.2))(k:AJ Ako H c (a0.2.2))(l:AJ .st H d (a1.f.2.1))(m:AJ .byte H e (a1.f.2.2.2.1))(n:AJ .Bu H g (a1.f.2.2.2.2.2.2)){r:(List Bool)}(h:Fi a0 a1=some r):Ok prog 51 [.agg #[No a0.1.1,a,No a0.2.1.1,b,c],.agg #[No a1.f.1,d,AaM a1.f.2.2.1,e,No a1.f.2.2.2.2.1,No a1.f.2.2.2.2.2.1,g]] w (fun v w'=>Ext w w'/\∃ o,v=o/\Ck 4 .bool H w w' o r):=On 1000 w H hH hU i j k l m n h
def Gm(a:List Int):Option Akj:=
 some (a,(0,0))
def D2(a2:List Bool)(c:(List Bool)):(List Int)×Int->Option (((List Int)×Int) ⊕ Akj):=fun⟨b,a⟩=>
 if a<(c.length:Int) then AN (0<=a/\a<(c.length:Int)) (if c.getD a.toNat Qq2 then AN (0<=a/\a<(a2.length:Int)) (if a2.getD a.toNat Qq2 then AN (Go.E.HK 8 (b.length+([a]).length)) (AN (Bz (a+1)) (some (Sum.inl ((b++[a]),(a+1))))) else AN (Bz (a+1)) (some (Sum.inl (b,(a+1))))) else AN (Bz (a+1)) (some (Sum.inl (b,(a+1))))) else Qq7 Sum.inr (Gm b)
def Gn(a2:List Bool)(a:(List Bool))(s:(List Int)×Int):Option Akj:=Go.L.run (D2 a2 a) s
def Cy(a0:(Int×Akc)×(Int×Akb)×(List Akd))(a1:Qv)(a2:List Bool):Option Akj:=
 Qq4 (Gc a1) (fun a=>if a.1=0/\a.2=0 then Qq4 (BX ((a0.1.1,a0.1.2),(a0.2.1.1,a0.2.1.2),a0.2.2)) (fun c=>if(a2.length:Int)=c then Qq4 (Fi ((a0.1.1,a0.1.2),(a0.2.1.1,a0.2.1.2),a0.2.2) a1) (fun d=>(Gn a2 d) (([]:List Int),0)) else Qq4 (Cn (9:Int) (-2:Int)) (fun b=>some ([],(b.1,b.2)))) else some ([],(a.1,a.2)))
theorem Il(hU:Gq H)(a0:(Int×Akc)×(Int×Akb)×(List Akd))(a1:Qv){a2:List Bool}{p s u x y z ab:Value}(aq:AJ (.pair .st (.vec Akp)) H p (a0.1.2))(ar:AJ Akn H s (a0.2.1.2))(au:AJ Ako H u (a0.2.2))(av:AJ .st H x (a1.f.2.1))(aw:AJ .byte H y (a1.f.2.2.2.1))(ax:AJ .Bu H z (a1.f.2.2.2.2.2.2))(ay:AJ .bool H ab a2){r:(List Int)×(Int×Int)}(h:Cy a0 a1 a2=some r):
  Qqv 24 [.agg #[No a0.1.1,p,No a0.2.1.1,s,u],.agg #[No a1.f.1,x,AaM a1.f.2.2.1,y,No a1.f.2.2.2.2.1,No a1.f.2.2.2.2.2.1,z],ab] w (fun v w'=>∃ u0,v=.tuple #[u0,.agg #[No r.2.1,No r.2.2]]/\Ck 3 (.int .i64) H w w' u0 (r.1)):=by
 refine A1 47 [(0,.agg #[No a0.1.1,p,No a0.2.1.1,s,u]),(1,.agg #[No a1.f.1,x,AaM a1.f.2.2.1,y,No a1.f.2.2.2.2.1,No a1.f.2.2.2.2.2.1,z]),(2,ab)] func24 Z fun hL=>Aj<|CD (t:=52) Z Z hL fun w1 b1 b9 cn _=>CD (t:=26) Z Z b9 fun w2 b2 cb co _=>Ar 1 Z<|A9 AE.e Z cb fun w3 b3 az cp _=>Ad<|AB<|Aj<|Ai (Az 1 Z By.e az Z)<|Aw h fun x4 cc h=>AD az (Ly (a0:=a1) _ _ (An az) (hU.mono  Ah) (av.mono  Ah) (aw.mono  Ah) (ax.mono  Ah) cc) fun w5 c4 cd cq=>A9 AE.e Z cd fun w6 b6 cf cr _=>Af 0 Z cf Z fun w7 ag cs=>Ad<|Aj<|Ai (Az 0 Z AE.e ag Z)<|Ai (AT (fun _=>BM _))<|Ai (JO Jh (Nc _ _ _ _))<|Ad<|CX h ?_ ?_<;>intro cg h
 ·refine Ex (.q 0 (.q 1 (.tail 2))) mixed Qqb (fun c5 bp=>?_);have a3:=ag.call bp;refine CB Z (Az 0 Z AE.e a3 Z) Z<|D4 1 Z<|BT (fun c6 bq=>?_);have br:=a3.call bq;refine Af 1 Z br Z fun c7 a4 ch=>Ad<|Ay<|Aq ?_
  cases h
  refine Bo (.tmp Z) (.cell Z Ajx Z AE.e (AG (i:=1) a4 Z)) ⟨a4.ext,_,Z,Ck.nil⟩
 refine Ax<|As<|AB<|Bx 1 Z<|Ai (Bm ay)<|Ai (Az 3 Z Lp.e ag Z)<|Aw h fun c8 bs h=>AD ag (Fh _ _ (An ag) (((a0.1.1,a0.1.2),(a0.2.1.1,a0.2.1.2),a0.2.2)) (aq.mono  Ah) (ar.mono  Ah) (au.mono  Ah) bs) fun c9 ct al ci=>A8 1 Z<|CX h ?_ ?_<;>intro bt h
 ·refine Aj<|Aw h fun da bu h=>AD al (CE _ _ (An al) bu) fun db cu bv cj=>Ar 1 Z<|Af 1 Z bv Z fun dc a5 ck=>Ad<|Ay<|Aq ?_
  cases h
  refine Bo (.tmp Z) (.cell Z Ajx Z AE.e (AG (i:=1) a5 Z)) ⟨a5.ext,_,Z,Ck.nil⟩
 refine Ax<|As<|Bx 1 Z ?_;obtain⟨aa,cl,am⟩:=DI (.int .i64) H 3 al;refine Ad<|B2 ((List Int)×Value×(List Value)) (fun⟨ah,ac,o⟩=>[(7,(Aad b3)),(9,ac)]) (fun⟨ah,ac,o⟩ wr=>FX w [.row ac 3 1 (ah).length o,.box b6 [No x4.1,No x4.2] 28,.box b3 [No 0,No 0] 28,.box b2 [No a1.f.1,x,AaM a1.f.2.2.1,y,No a1.f.2.2.2.2.1,No a1.f.2.2.2.2.2.1,z] 26,.box b1 [No a0.1.1,p,No a0.2.1.1,s,u] 52] wr fun Oz=>AH (.int .i64) (gz H w wr Oz) ah o/\Gm ah=some r) ?_ ?_
 ·refine Aj<|Ai (Az 4 Z Lp.e aa Z)<|Ai (Az 3 Z By.e aa Z)<|Aw h fun a6 bw h=>Bf aa (Pg (a0:=((a0.1.1,a0.1.2),(a0.2.1.1,a0.2.1.2),a0.2.2)) (a1:=a1) _ _ (An aa) (hU.mono  Ah) (aq.mono  Ah) (ar.mono  Ah) (au.mono  Ah) (av.mono  Ah) (aw.mono  Ah) (ax.mono  Ah) bw) ?_;rintro an dd ⟨_,rfl,a7⟩ bx bz bc;have ai:=a7.Du hH aa bx;refine Ai (Bm ai)<|A8 1 Z<|A4 ?_;obtain⟨aj,h⟩:=Ba h;have am:=am.mono (Aa bc)
  refine B7 ((List Int)×Int×Value×(List Value)×Nat) (fun⟨e,a,g,b,n⟩=>[(2,ab),(7,(Aad b3)),(9,g),(26,an),(27,No (a6.length:Int)),(28,No a)]) (fun⟨e,a,g,b,n⟩ wr=>FX w [.row g 3 1 (e).length b,.box b6 [No x4.1,No x4.2] 28,.box b3 [No 0,No 0] 28,.box b2 [No a1.f.1,x,AaM a1.f.2.2.1,y,No a1.f.2.2.2.2.1,No a1.f.2.2.2.2.2.1,z] 26,.box b1 [No a0.1.1,p,No a0.2.1.1,s,u] 52] wr fun Oz=>AJ .bool (gz H w wr Oz) an a6/\AH (.int .i64) (gz H w wr Oz) e b/\Ia (D2 a2 a6) n (e,a)=some r) (fun⟨e,a,g,b,n⟩=>n) (([]:List Int),0,Aac,[],aj) Z ⟨bz,ai,am,h⟩ ?_;rintro⟨e,a,g,b,nn97⟩ cv ⟨k,d,j,h⟩;obtain⟨aj,de,rfl,h,ad⟩:=AZ h;refine AI 1 Z<|AB<|AQ h ?_ ?_<;>intro b0 h
  ·refine Ax<|As<|AB<|A4<|Bx 1 Z<|A2 h fun ao h=>Bi d a.toNat (GX ao) (AX ao) ?_;rintro cw _ rfl bd;refine Ai (Bl bd (An k))<|A8 2 Z<|Bx 2 Z<|Fs 34 h ?_ ?_<;>intro c h
   ·refine Ab c<|Ai (Am Z)<|Ab c<|Ai (Am Z)<|Ab c<|A2 h fun ap h=>Bi ay a.toNat (GX ap) (AX ap) ?_;rintro cx _ rfl be;refine Ab c<|Ai (Bl be (hH.trans k.arg))<|Ai (AK c Z)<|Ad<|B8 h ?_ ?_<;>intro bf h
    ·refine Au<|Ar 2 Z<|B9 [a] (r:=(.int .i64)) (fun _=>Jn _ _) k (.c1 Z .nil) fun cy cz cm bg ak bh=>A2 h fun bi h=>?_;have j:=j.mono (Aa ak);refine Bt (r:=(.int .i64)) 0 e [a] Z AhD bg Z j bh bi fun b4 c0 bj bk a8 bl=>Ar 1 Z<|AL<|A3<|As<|Au<|A2 h fun bm h=>Ai (A7 bm)<|Ar 1 Z<|AL ?_;have h:=Cf.again h ad;have d:=d.mono (Aa (ak.trans a8));refine AM (_,_,_,_,_) Z ⟨bk,d,bl,h⟩
    refine Ax<|A3<|As<|Au<|A2 h fun bn h=>Ai (A7 bn)<|Ar 1 Z<|AL ?_;have h:=Cf.again h ad;refine AM (_,_,_,_,_) Z ⟨k,d,j,h⟩
   iterate 4 refine Ao c ?_
   refine Ai (AO c Z)<|Ad<|G5<|Ax<|A3<|As<|Au<|A2 h fun bo h=>Ai (A7 bo)<|Ar 1 Z<|AL ?_;have h:=Cf.again h ad;refine AM (_,_,_,_,_) Z ⟨k,d,j,h⟩
  refine B4<|AF<|A5 ?_;have h:=Cf.out h ad;refine Bg<|AA (_,_,_) ⟨k,j,h⟩
 rintro⟨ah,ac,o⟩ c2 ⟨b5,ae,h⟩;refine Bx 1 Z<|Ai (AT (fun _=>BM _))<|Ar 1 Z<|Af 2 Z b5 Z fun c3 af a9=>Ad<|Ay ?_
 cases h
 refine Bo (.tmp Z) (.cell Z Ajx Z AE.e (AG (i:=2) af Z)) ?_;have ae:=ae.mono (Aa a9);exact⟨af.ext,_,Z,(af.Iq hH (i:=0) Z ae)⟩
def Im(a0:AaV):Option AaV:=
 some a0
theorem OE{a0:AaV}{a:Value}(b:AJ .byte H a a0){r:AaV}(h:Im a0=some r):
  Qqv 61 [a] w (fun v w'=>∃ c,v=c/\AJ .byte (un H (nw w w')) c r):=by
 refine A1 9 [(0,a)] func61 Z fun hL=>AI 1 Z<|Bx 2 Z<|Ai (Bm b)<|Ar 1 Z<|Ai (Bm b)<|Aie b fun e d=>A8 1 Z<|Ay ?_
 cases h
 refine Al Z ⟨hL.ext,_,Z,(d.mono (M1 hH))⟩
def H5(a0:(Int×Akc)×(Int×Akb)×(List Akd))(a1 a2 a3:Int):Option (AaV×(Int×Int)):=
 AN (0<=a1/\a1<(a0.2.2.length:Int)) (Qq4 (Eh ((a0.2.2.getD a1.toNat Qq2).1,(a0.2.2.getD a1.toNat Qq2).2.1,(a0.2.2.getD a1.toNat Qq2).2.2)) (fun a=>if(a2<0)\/(a<a2) then none else(if(a3<a2)\/(a<a3) then none else AN (0<=a1/\a1<(a0.2.2.length:Int)) (Qq4 (Ik ((a0.2.2.getD a1.toNat Qq2).1,(a0.2.2.getD a1.toNat Qq2).2.1,(a0.2.2.getD a1.toNat Qq2).2.2) a2 a3) (fun b=>Qq4 (Im b.1) (fun c=>some (c,(0,0))))))))
def Hq(a0:(Int×Akc)×(Int×Akb)×(List Akd))(a1 a2 a3:Int)(a4:List Bool):Option (AaV×(Int×Int)):=
 if a1<0 then none else Qq4 (BX ((a0.1.1,a0.1.2),(a0.2.1.1,a0.2.1.2),a0.2.2)) (fun b=>if b<=a1 then none else Qq4 (BX ((a0.1.1,a0.1.2),(a0.2.1.1,a0.2.1.2),a0.2.2)) (fun c=>if(a4.length:Int)=c then AN (0<=a1/\a1<(a4.length:Int)) (if !(a4.getD a1.toNat Qq2) then Qq4 (Cn (20:Int) (-1:Int)) (fun a=>some ([],(a.1,a.2))) else(H5 a0 a1 a2 a3)) else none))
theorem Mc{a0:(Int×Akc)×(Int×Akb)×(List Akd)}{a1 a2 a3:Int}{a4:List Bool}{e f g m:Value}(q:AJ (.pair .st (.vec Akp)) H e (a0.1.2))(s:AJ Akn H f (a0.2.1.2))(j:AJ Ako H g (a0.2.2))(u:AJ .bool H m a4){r:AaV×(Int×Int)}(h:Hq a0 a1 a2 a3 a4=some r):
  Qqv 29 [.agg #[No a0.1.1,e,No a0.2.1.1,f,g],No a1,No a2,No a3,m] w (fun v w'=>∃ u0,v=.tuple #[u0,.agg #[No r.2.1,No r.2.2]]/\AJ .byte (un H (nw w w')) u0 (r.1)):=by
 refine A1 78 [(0,.agg #[No a0.1.1,e,No a0.2.1.1,f,g]),(1,No a1),(2,No a2),(3,No a3),(4,m)] func29 Z fun hL=>Aj<|CD (t:=52) Z Z hL fun w1 b1 bb bm _=>Ar 1 Z<|A9 AE.e Z bb fun w2 b2 x bn _=>Ad<|B2 Unit (fun(_:Unit)=>[(1,No a1),(2,No a2),(3,No a3),(5,(Aad b1)),(11,(Aad b2))]) (fun(_:Unit) wr=>Bb w [.box b2 [No 0,No 0] 28,.box b1 [No a0.1.1,e,No a0.2.1.1,f,g] 52] wr/\(H5 a0 a1 a2 a3)=some r) ?_ ?_
 ·refine A4<|Bx 3 Z<|CI 18 h ?_ ?_<;>intro a h
  ·iterate 4 refine Ao a ?_
   refine Ai (AK a Z)<|A8 1 Z<|Fq ?_
   cases h
  refine Ab a<|Ai (Am Z)<|Ab a<|Ai (Az 1 Z Lp.e x Z)<|Ab a<|Aw h fun bt ai h=>AD x (Fh _ _ (An x) (((a0.1.1,a0.1.2),(a0.2.1.1,a0.2.1.2),a0.2.2)) (q.mono  Ah) (s.mono  Ah) (j.mono  Ah) ai) fun bu bo o bd=>Ab a<|Ai (Am Z)<|Ai (AO a Z)<|A8 1 Z<|AQ h ?_ ?_<;>intro aj h
  ·cases h
  refine Bx 1 Z<|Ai (Bm u)<|Ai (Az 1 Z Lp.e o Z)<|Aw h fun bv ak h=>AD o (Fh _ _ (An o) (((a0.1.1,a0.1.2),(a0.2.1.1,a0.2.1.2),a0.2.2)) (q.mono  Ah) (s.mono  Ah) (j.mono  Ah) ak) fun bw bp k be=>A8 2 Z<|CX h ?_ ?_<;>intro al h
  ·cases h
  refine Bx 2 Z<|A2 h fun y h=>Bi u a1.toNat (GX y) (AX y) ?_;rintro bx _ rfl am;refine Ai (Bl am (hH.trans k.arg))<|A8 2 Z<|B8 h ?_ ?_<;>intro an h
  ·refine Aj<|Aw h fun bz ao h=>AD k (CE _ _ (An k) ao) fun b0 bq ap bf=>Ar 1 Z<|Af 0 Z ap Z fun b3 z bg=>Ad<|Ay<|Av<|Bs ?_
   cases h
   refine Bo (.tmp Z) (.cell Z Ajx Z AE.e (AG (i:=0) z Z)) ⟨z.ext,_,Z,(AJ.nil _ _)⟩
  refine Ax<|A3<|AA () ⟨k,h⟩
 rintro _ br ⟨l,h⟩;refine Aj<|Ai (Ae Z AjU Z Lo.e)<|Ai (Ag 1 Z l Z)<|Ar 1 Z<|A2 h fun aa h=>Bi j a1.toNat (GX aa) (AX aa) ?_;rintro b4 _ ⟨_,_,rfl,⟨e49v0,rfl,e49h0⟩,⟨_,_,rfl,⟨e49v1,rfl,e49h1⟩,⟨e49v2,rfl,e49h2⟩⟩⟩ aq;refine Ai (Cz aq (hH.trans l.arg))<|Aw h fun b5 ar h=>AD l (Hb _ _ (An l) (((a0.2.2.getD a1.toNat Qq2).1,(a0.2.2.getD a1.toNat Qq2).2.1,(a0.2.2.getD a1.toNat Qq2).2.2)) (e49h0.mono  Ah) (e49h1.mono  Ah) (e49h2.mono  Ah) ar) fun b6 bs b bh=>A8 1 Z<|AB<|A4<|Bx 3 Z<|Y3 3 2 Z Z Z Z Z Z<|A8 1 Z<|AQ h ?_ ?_<;>intro au h
 ·cases h
 refine Bx 4 Z<|Y3 3 3 Z Z Z Z Z Z<|A8 1 Z<|AQ h ?_ ?_<;>intro av h
 ·cases h
 refine Ax<|A3<|As<|Aj<|Ai (Ae Z AjU Z Lo.e)<|Ai (Ag 1 Z b Z)<|Ar 1 Z<|A2 h fun ab h=>Bi j a1.toNat (GX ab) (AX ab) ?_;rintro b7 _ ⟨_,_,rfl,⟨e59v0,rfl,e59h0⟩,⟨_,_,rfl,⟨e59v1,rfl,e59h1⟩,⟨e59v2,rfl,e59h2⟩⟩⟩ aw;refine Ai (Cz aw (hH.trans b.arg))<|Ar 2 Z<|Aw h fun b8 ax h=>Bf b (OC (a0:=((a0.2.2.getD a1.toNat Qq2).1,(a0.2.2.getD a1.toNat Qq2).2.1,(a0.2.2.getD a1.toNat Qq2).2.2)) _ _ (An b) (e59h0.mono  Ah) (e59h1.mono  Ah) (e59h2.mono  Ah) ax) ?_;rintro _ b9 ⟨bi,rfl,ac⟩ ay az bj;have c:=ac.Du hH b ay;refine Ar 3 Z<|A9 AE.e Z az fun ca cb a5 af _=>Ar 1 Z<|Af 0 Z a5 Z fun cc p ag=>Ad<|Bx 1 Z<|Aw h fun cd a6 h=>?_;have c:=c.mono (Aa (af.trans ag));refine Bf p (OE _ _ (An p) c a6) ?_;rintro bk ce ⟨_,rfl,ad⟩ a7 a8 bl;have d:=ad.mono (Dt p a7)
 refine Ai (AT (fun _=>BM _))<|Ar 1 Z<|Af 1 Z a8 Z fun cf ae ah=>Ad<|Ay ?_
 cases h
 refine Bo (.tmp Z) (.cell Z Ajx Z AE.e (AG (i:=1) ae Z)) ?_;have d:=d.mono (Aa ah);exact⟨ae.ext,_,Z,(d.mono  EE)⟩
end
end Go.Proofs.YtekmbcbgknmhiaaGreatDoor
end
noncomputable section
namespace Go.L
open Go
def bt(l:List UInt8)(k:Nat):Nat:=(l.getD k Qq2).toNat
def cont(l:List UInt8)(k:Nat):Bool:=decide (k<l.length/\128<=bt l k/\bt l k<=191)
def pt3(l:List UInt8):Nat:=((bt l 0 - 224) * 64+(bt l 1 - 128)) * 64+(bt l 2 - 128)
def pt4(l:List UInt8):Nat:=(((bt l 0 - 240) * 64+(bt l 1 - 128)) * 64+(bt l 2 - 128)) * 64+(bt l 3 - 128)
def PZ(l:List UInt8):Nat:=
 if 194<=bt l 0/\bt l 0<=223 then(if cont l 1 then 2 else 0)
 else if 224<=bt l 0/\bt l 0<=239 then(if cont l 1/\cont l 2/\2048<=pt3 l/\¬ (55296<=pt3 l/\pt3 l<=57343) then 3 else 0)
 else if 240<=bt l 0/\bt l 0<=244 then(if cont l 1/\cont l 2/\cont l 3/\65536<=pt4 l/\pt4 l<=1114111 then 4 else 0)
 else 0
def asc(c:Nat):Bool:=decide ((48<=c/\c<=57)\/(97<=c/\c<=122)\/(65<=c/\c<=90))
def MT(l:List UInt8):Nat:=if asc (bt l 0) then 1 else PZ l
def Js(c:UInt8):UInt8:=if 65<=(c.toNat:Int)/\(c.toNat:Int)<=90 then c+32 else c
theorem Ag0{c:UInt8}(h:128<=c.toNat):Js c=c:=by unfold Js;rw [if_neg U]
theorem Ag1(a:List UInt8)(i k:Nat):bt (a.drop i) k=bt a (i+k):=by
 unfold bt;rw [Qzq,Qzq,Qxv]
theorem Aeo(l:List UInt8)(h:l≠[]):PZ l<=l.length:=by
 have hl:=Qkc.2 h;unfold PZ cont
 split
 ·split
  ·rename_i a;have:=of_decide_eq_true a;omega
  ·omega
 ·split
  ·split
   ·rename_i a;have:=of_decide_eq_true a.2.1;omega
   ·omega
  ·split
   ·split
    ·rename_i a;have:=of_decide_eq_true a.2.2.1;omega
    ·omega
   ·omega
theorem Aav(l:List UInt8)(h:l≠[]):MT l<=l.length:=by
 have hl:=Qkc.2 h;unfold MT
 split
 ·omega
 ·exact Aeo l h
theorem Ag2{l:List UInt8}(h:bt l 0<128):PZ l=0:=by
 unfold PZ;rw [if_neg U,if_neg U,if_neg U]
theorem UB{l:List UInt8}(_hs:PZ l≠0):(l.take (PZ l)).map Js=l.take (PZ l):=by
 have key:∀ k,k<PZ l->128<=bt l k:=by
  intro k hk;unfold PZ at hk;unfold cont at hk
  split at hk
  ·split at hk
   ·rename_i a;have:=of_decide_eq_true a;obtain h | h:k=0\/k=1:=by omega
    all_goals subst h;omega
   ·omega
  ·split at hk
   ·split at hk
    ·rename_i a;have h2:=of_decide_eq_true a.1;have h3:=of_decide_eq_true a.2.1;obtain h | h | h:k=0\/k=1\/k=2:=by omega
     all_goals subst h;omega
    ·omega
   ·split at hk
    ·split at hk
     ·rename_i a;have h2:=of_decide_eq_true a.1;have h3:=of_decide_eq_true a.2.1;have b:=of_decide_eq_true a.2.2.1;obtain h | h | h | h:k=0\/k=1\/k=2\/k=3:=by omega
      all_goals subst h;omega
     ·omega
    ·omega
 apply List.ext_getElem Qqd;intro k a h2;rw [List.getElem_map,List.getElem_take];apply Ag0;have hk:k<PZ l:=by simp at h2;omega
 have:=key k hk;have hkl:k<l.length:=by simp at h2;omega
 unfold bt at this;rw [Qzq,Qzw hkl] at this;exact this
theorem Zi(l:List UInt8)(k:Nat):((ByteArray.mk l.toArray).get! k).toNat=bt l k:=by
 simp [ByteArray.get!,bt,Qzq,getElem!_def]
 cases h:l[k]? <;> rfl
theorem Ail(l:List UInt8)(hne:l≠[])(m:128<=bt l 0):(PZ l=0->Lib.decodeGo ⟨l.toArray⟩=(65533,1))/\(PZ l≠0->(Lib.decodeGo ⟨l.toArray⟩).2=PZ l/\PZ l≠1):=by
 have hsz:(ByteArray.mk l.toArray).size=l.length:=by simp [Qxc]
 have hl:=Qkc.2 hne
 have hc:∀ k,(decide (0+k<(ByteArray.mk l.toArray).size)&&((ByteArray.mk l.toArray).get! (0+k)).toNat / 64==2)=cont l k:=by
  intro k;rw [Qzc,hsz,Zi];unfold cont
  by_cases a:k<l.length
  ·by_cases h2:bt l k / 64=2
   ·rw [decide_eq_true a,Qku,beq_iff_eq.2 h2,decide_eq_true ⟨a,by omega,by omega⟩]
   ·rw [decide_eq_true a,Qku,beq_eq_false_iff_ne.2 h2,decide_eq_false (fun h=>h2 U)]
  ·rw [decide_eq_false a,Bool.false_and,decide_eq_false (fun h=>a h.1)]
 unfold Lib.decodeGo;rw [hsz,if_neg U];unfold Utf8.decode;simp only [hc];simp only [Qzc,Zi]
 have hv:∀ c:Nat,Utf8.valid c=decide (c<55296\/(57344<=c/\c<=1114111)):=by
  intro c;rw [Qz3];unfold Utf8.valid;simp only [Bool.or_eq_true,Qzb,decide_eq_true_eq];omega
 simp only [hv];have f1:cont l 1=true->128<=bt l 1/\bt l 1<=191:=fun h=>(of_decide_eq_true h).2;have f2:cont l 2=true->128<=bt l 2/\bt l 2<=191:=fun h=>(of_decide_eq_true h).2;have f3:cont l 3=true->128<=bt l 3/\bt l 3<=191:=fun h=>(of_decide_eq_true h).2;have hb:bt l 0<256:=Qx1 _;unfold PZ pt3 pt4 Utf8.runeError;generalize bt l 0=b at *;generalize bt l 1=d at *;generalize bt l 2=f at *;generalize bt l 3=g at *;generalize cont l 1=c1 at *;generalize cont l 2=c2 at *;generalize cont l 3=c3 at *;simp only [Qzb,beq_iff_eq,decide_eq_true_eq]
 by_cases hA:194<=b/\b<=223
 ·rw [if_pos hA,if_neg (show ¬ b<128 by omega)]
  by_cases a:c1=true
  ·have:=f1 a;rw [if_pos a,if_pos (show b / 32=6/\c1=true from⟨by omega,a⟩),if_pos (show b % 32 * 64+d % 64>=128 by omega)];exact⟨fun h=>absurd h Qqc,fun _=>⟨Z,by decide⟩⟩
  ·rw [if_neg a,if_neg (show ¬ (b / 32=6/\c1=true) from fun h=>a h.2),if_neg (show ¬ ((b / 16=14/\c1=true)/\c2=true) from fun h=>by omega),if_neg (show ¬ (((b / 8=30/\c1=true)/\c2=true)/\c3=true) from fun h=>by omega)];exact⟨fun _=>Z,fun h=>absurd Z h⟩
 rw [if_neg hA]
 by_cases hB:224<=b/\b<=239
 ·rw [if_pos hB,if_neg (show ¬ b<128 by omega),if_neg (show ¬ (b / 32=6/\c1=true) from fun h=>by omega)]
  by_cases a:c1=true/\c2=true
  ·have i:=f1 a.1;have j:=f2 a.2;rw [if_pos (show(b / 16=14/\c1=true)/\c2=true from⟨⟨by omega,a.1⟩,a.2⟩)];have e:b % 16 * 4096+d % 64 * 64+f % 64=((b - 224) * 64+(d - 128)) * 64+(f - 128):=by omega
   rw [e]
   by_cases h2:2048<=((b - 224) * 64+(d - 128)) * 64+(f - 128)/\¬ (55296<=((b - 224) * 64+(d - 128)) * 64+(f - 128)/\((b - 224) * 64+(d - 128)) * 64+(f - 128)<=57343)
   ·rw [if_pos ⟨a.1,a.2,h2⟩,if_pos ⟨h2.1,U⟩];exact⟨fun h=>absurd h Qqc,fun _=>⟨Z,by decide⟩⟩
   ·rw [if_neg (fun h=>h2 h.2.2),if_neg (fun h=>h2 ⟨h.1,by omega⟩)];exact⟨fun _=>Z,fun h=>absurd Z h⟩
  ·rw [if_neg (fun h=>a ⟨h.1,h.2.1⟩),if_neg (show ¬ ((b / 16=14/\c1=true)/\c2=true) from fun h=>a ⟨h.1.2,h.2⟩),if_neg (show ¬ (((b / 8=30/\c1=true)/\c2=true)/\c3=true) from fun h=>by omega)];exact⟨fun _=>Z,fun h=>absurd Z h⟩
 rw [if_neg hB]
 by_cases hC:240<=b/\b<=244
 ·rw [if_pos hC,if_neg (show ¬ b<128 by omega),if_neg (show ¬ (b / 32=6/\c1=true) from fun h=>by omega),if_neg (show ¬ ((b / 16=14/\c1=true)/\c2=true) from fun h=>by omega)]
  by_cases a:c1=true/\c2=true/\c3=true
  ·have i:=f1 a.1;have j:=f2 a.2.1;have n:=f3 a.2.2;rw [if_pos (show((b / 8=30/\c1=true)/\c2=true)/\c3=true from⟨⟨⟨by omega,a.1⟩,a.2.1⟩,a.2.2⟩)];have e:b % 8 * 262144+d % 64 * 4096+f % 64 * 64+g % 64=(((b - 240) * 64+(d - 128)) * 64+(f - 128)) * 64+(g - 128):=by omega
   rw [e]
   by_cases h2:65536<=(((b - 240) * 64+(d - 128)) * 64+(f - 128)) * 64+(g - 128)/\(((b - 240) * 64+(d - 128)) * 64+(f - 128)) * 64+(g - 128)<=1114111
   ·rw [if_pos ⟨a.1,a.2.1,a.2.2,h2⟩,if_pos ⟨h2.1,by omega⟩];exact⟨fun h=>absurd h Qqc,fun _=>⟨Z,by decide⟩⟩
   ·rw [if_neg (fun h=>h2 h.2.2.2),if_neg (fun h=>h2 ⟨h.1,by omega⟩)];exact⟨fun _=>Z,fun h=>absurd Z h⟩
  ·rw [if_neg (fun h=>a ⟨h.1,h.2.1,h.2.2.1⟩),if_neg (fun h=>a ⟨h.1.1.2,h.1.2,h.2⟩)];exact⟨fun _=>Z,fun h=>absurd Z h⟩
 rw [if_neg hC];refine⟨fun _=>?_,fun h=>absurd Z h⟩;rw [if_neg (show ¬ b<128 by omega)]
 by_cases a:b / 32=6/\c1=true
 ·have:=f1 a.2;rw [if_pos a,if_neg (show ¬ (b % 32 * 64+d % 64>=128) by omega)]
 ·rw [if_neg a,if_neg (show ¬ ((b / 16=14/\c1=true)/\c2=true) from fun h=>by omega)]
  by_cases h2:((b / 8=30/\c1=true)/\c2=true)/\c3=true
  ·have i:=f1 h2.1.1.2;rw [if_pos h2,if_neg (fun h=>by omega)]
  ·rw [if_neg h2]
end Go.L
namespace Go.Proofs.YtekmbcbgknmhiaaGreatDoor
open Go Go.L
theorem Acx{l:List UInt8}(hne:l≠[]):Ku l=some (if MT l=0 then([],1) else((l.take (MT l)).map Js,((MT l:Nat):Int))):=by
 have hl:=Qkc.2 hne;obtain⟨c,m,rfl⟩:=List.exists_cons_of_ne_nil hne;have i:(c::m).getD ((0:Int).toNat) Qq2=c:=Z;have eb:bt (c::m) 0=c.toNat:=Z;have hc:=c.toNat_lt;unfold Ku;rw [Ac ⟨by decide,by omega⟩,i]
 have hup:(65<=(c.toNat:Int))/\((c.toNat:Int)<=90)->AN (((c - (65:UInt8))+(97:UInt8)).toNat<128) (some ([((c - (65:UInt8))+(97:UInt8))],(1:Int)))=some (if MT (c::m)=0 then([],1) else(((c::m).take (MT (c::m))).map Js,((MT (c::m):Nat):Int))):=by
  intro h
  have e:(c - (65:UInt8))+(97:UInt8)=c+32:=by
   apply UInt8.toNat.inj;rw [UInt8.toNat_add,UInt8.toNat_sub,UInt8.toNat_add];have j:(97:UInt8).toNat=97:=Z;have k:(65:UInt8).toNat=65:=Z;have g:(32:UInt8).toNat=32:=Z;omega
  have n:(c+32).toNat=c.toNat+32:=by
   rw [UInt8.toNat_add];have g:(32:UInt8).toNat=32:=Z;omega
  have d:MT (c::m)=1:=by unfold MT asc;rw [eb,if_pos (decide_eq_true U)]
  rw [e,Ac U,d,if_neg Qqc]
  show some ([c+32],(1:Int))=some ([Js c],1)
  unfold Js;rw [if_pos h]
 have hlo:(48<=(c.toNat:Int))/\((c.toNat:Int)<=57)\/(97<=(c.toNat:Int))/\((c.toNat:Int)<=122)->AN (c.toNat<128) (some ([c],(1:Int)))=some (if MT (c::m)=0 then([],1) else(((c::m).take (MT (c::m))).map Js,((MT (c::m):Nat):Int))):=by
  intro h;have d:MT (c::m)=1:=by unfold MT asc;rw [eb,if_pos (decide_eq_true U)]
  rw [Ac U,d,if_neg Qqc]
  show some ([c],(1:Int))=some ([Js c],1)
  unfold Js;rw [if_neg U]
 have hnon:asc c.toNat=false->(if(c.toNat:Int)<128 then some (([]:List UInt8),(1:Int)) else Qq4 (Aco (c::m)) (fun a=>if(a.1=(65533:Int))/\(a.2=(1:Int)) then some (([]:List UInt8),(1:Int)) else Go.L.AN (0<=a.2/\a.2<=((c::m).length:Int)) (some (((c::m).take a.2.toNat),a.2))))=some (if MT (c::m)=0 then([],1) else(((c::m).take (MT (c::m))).map Js,((MT (c::m):Nat):Int))):=by
  intro h;have d:MT (c::m)=PZ (c::m):=by unfold MT;rw [if_neg (by rw [eb,h];decide)]
  rw [d]
  by_cases b:(c.toNat:Int)<128
  ·rw [if_pos b,Ag2 (by rw [eb];omega),if_pos Z]
  ·rw [if_neg b];have hd:=Ail (c::m) hne (by rw [eb];omega);unfold Aco;rw [Ac hne,Qq5]
   by_cases h2:PZ (c::m)=0
   ·rw [hd.1 h2,if_pos ⟨Z,Z⟩,if_pos h2]
   ·obtain⟨h3,f⟩:=hd.2 h2;have o:=Aeo (c::m) hne;simp only [h3];rw [if_neg U,Ac ⟨by omega,by omega⟩,if_neg h2,Qq8,UB h2]
 by_cases b:(48<=(c.toNat:Int))/\((c.toNat:Int)<=57)
 ·rw [if_pos b];exact hlo (.inl b)
 rw [if_neg b]
 by_cases h2:97<=(c.toNat:Int)
 ·rw [if_pos h2]
  by_cases h3:(c.toNat:Int)<=122
  ·rw [if_pos h3];exact hlo (.inr ⟨h2,h3⟩)
  ·rw [if_neg h3,if_neg U];exact hnon (decide_eq_false U)
 ·rw [if_neg h2]
  by_cases f:(65<=(c.toNat:Int))/\((c.toNat:Int)<=90)
  ·rw [if_pos f];exact hup f
  ·rw [if_neg f];exact hnon (decide_eq_false U)
end Go.Proofs.YtekmbcbgknmhiaaGreatDoor
namespace Go.L
open Go
abbrev W:=List UInt8×Int×Int
abbrev WS:=(List W×Int) ⊕ List W
def fin(cur:List UInt8)(fr at':Nat):List W:=if cur=[] then[] else[(cur,(fr:Int),(at':Int))]
def VA(a:List UInt8):Nat->Nat->List UInt8->Nat->List W
 | 0,at',cur,fr=>fin cur fr at'
 | f+1,at',cur,fr=>
  if at'<a.length then
   if MT (a.drop at')=0 then fin cur fr at'++VA a f (at'+1) [] (at'+1)
   else VA a f (at'+MT (a.drop at')) (cur++((a.drop at').take (MT (a.drop at'))).map Js) fr
  else fin cur fr at'
def Zj(a:List UInt8):List W:=VA a (a.length+1) 0 [] 0
theorem Rn{a:List UInt8}{f at':Nat}{cur:List UInt8}{fr:Nat}(h:a.length<=at'):VA a f at' cur fr=fin cur fr at':=by
 cases f with
 | zero=>rfl
 | succ f=>unfold VA;rw [if_neg U]
theorem XT(cur:List UInt8)(fr at':Nat):(fin cur fr at').length<=1:=by unfold fin;split <;> simp
theorem UC{a:List UInt8}{i:Nat}(h:i<a.length):a.drop i≠[]:=fun e=>by
 have:=congrArg List.length e;rw [QzC,Qze] at this;omega
theorem QL{a:List UInt8}{i:Nat}(h:i<a.length):i+MT (a.drop i)<=a.length:=by
 have:=Aav _ (UC h);rw [QzC] at this;omega
theorem XU{a:List UInt8}{i:Nat}(h:i<a.length):(((a.drop i).take (MT (a.drop i))).map Js).length=MT (a.drop i):=by
 have:=Aav _ (UC h);rw [Qzk,QzK];omega
end Go.L
namespace Go.Proofs.YtekmbcbgknmhiaaGreatDoor
open Go Go.L
theorem Ag3{a:List UInt8}(hs:a.length<=1000000000000):∀ (f at':Nat) (L:List W),a.length<=at'+f->L.length<=at'->at'<=a.length+1->
  run (CN a) (L,(at':Int))=some (L++VA a f at' [] at')/\
  ∀
   (cur:List UInt8) (fr:Nat),(at'<a.length\/cur≠[])->at'<=a.length->cur.length<=at'->∃ m,run (CM a L (fr:Int)) (cur,(at':Int))=some m/\
   (match m with | .inl s=>run (CN a) s=some (L++VA a f at' cur fr) | .inr r=>r=L++VA a f at' cur fr):=by
 intro f
 induction f with
 | zero=>
  intro at' L hf hL ha
  constructor
  ·rw [Rn U];refine AP (m:=some (L++fin [] at' at')) ?_;unfold CN;simp only;rw [if_neg U];unfold fin;rw [if_pos Z,QzX]
  ·intro cur fr hc hle hcl;have hc:cur≠[]:=hc.resolve_left U;refine⟨.inr (L++fin cur fr at'),?_,Z⟩;refine AP (m:=some (Sum.inr (L++fin cur fr at'):WS)) ?_;unfold CM HH;simp only;rw [if_neg U,Ac (by constructor <;> omega)];unfold fin;rw [if_neg hc]
   rfl
 | succ f ih=>
  intro at' L hf hL ha
  have B:∀ (cur:List UInt8) (fr:Nat),(at'<a.length\/cur≠[])->at'<=a.length->cur.length<=at'->∃ m,run (CM a L (fr:Int)) (cur,(at':Int))=some m/\
   (match m with | .inl s=>run (CN a) s=some (L++VA a (f+1) at' cur fr) | .inr r=>r=L++VA a (f+1) at' cur fr):=by
   intro cur fr hc hle hcl
   by_cases h:at'<a.length
   ·have hroom:=QL h;have hlow:=XU h;have b:=Acx (UC h);unfold VA;rw [if_pos h]
    by_cases d:MT (a.drop at')=0
    ·rw [if_pos d] at b ⊢;have e:(((at':Nat):Int)+1)=((at'+1:Nat):Int):=by omega
     by_cases hcur:cur=[]
     ·have c:=(ih (at'+1) L U U U).1;refine⟨.inl (L,((at'+1:Nat):Int)),?_,?_⟩
      ·refine AP (m:=some (Sum.inl (L,((at'+1:Nat):Int)):WS)) ?_;unfold CM;simp only;rw [if_pos U,Ac ⟨by omega,by omega⟩,Qq8,b,Qq5];simp only;rw [if_pos trivial,Ac (by constructor <;> omega),if_pos hcur,e]
      ·simp only;rw [c];unfold fin;rw [if_pos hcur,Qxz]
     ·have c:=(ih (at'+1) (L++[(cur,(fr:Int),(at':Int))]) U (by rw [Qzu,QxC];omega) U).1;refine⟨.inl (L++[(cur,(fr:Int),(at':Int))],((at'+1:Nat):Int)),?_,?_⟩
      ·refine AP (m:=some (Sum.inl (L++[(cur,(fr:Int),(at':Int))],((at'+1:Nat):Int)):WS)) ?_;unfold CM;simp only;rw [if_pos U,Ac ⟨by omega,by omega⟩,Qq8,b,Qq5];simp only;rw [if_pos trivial,Ac (by constructor <;> omega),if_neg hcur,Ac (by constructor <;> omega),e]
      ·simp only;rw [c];unfold fin;rw [if_neg hcur,Qxd]
    ·rw [if_neg d] at b ⊢;have hne:((a.drop at').take (MT (a.drop at'))).map Js≠[]:=fun e=>by rw [e,Qze] at hlow;omega
     obtain⟨m,c,h2⟩:=(ih (at'+MT (a.drop at')) L U U U).2 (cur++((a.drop at').take (MT (a.drop at'))).map Js) fr (.inr (fun e=>hne (List.append_eq_nil_iff.1 e).2)) hroom (by rw [Qzu,hlow];omega);refine⟨m,?_,h2⟩;rw [<- c];refine Be ?_;unfold CM;simp only;rw [if_pos U,Ac ⟨by omega,by omega⟩,Qq8,b,Qq5];simp only;rw [if_neg hne,Ac U,Ac (by constructor <;> omega)]
     rfl
   ·have hc:cur≠[]:=hc.resolve_left h;rw [Rn U];refine⟨.inr (L++fin cur fr at'),?_,Z⟩;refine AP (m:=some (Sum.inr (L++fin cur fr at'):WS)) ?_;unfold CM HH;simp only;rw [if_neg U,Ac (by constructor <;> omega)];unfold fin;rw [if_neg hc]
    rfl
  refine⟨?_,B⟩
  by_cases h:at'<a.length
  ·obtain⟨m,c,h2⟩:=B [] at' (.inl h) U Qqd
   have hb:CN a (L,(at':Int))=some m:=by
    unfold CN;simp only;rw [if_pos U];exact c
   cases m with
   | inl s=>rw [Be hb];exact h2
   | inr r=>rw [AP (m:=some r) hb,h2]
  ·rw [Rn U];refine AP (m:=some (L++fin [] at' at')) ?_;unfold CN;simp only;rw [if_neg U];unfold fin;rw [if_pos Z,QzX]
theorem TX{a:List UInt8}(hs:a.length<=1000000000000):Pc a=some (Zj a):=by
 have:=(Ag3 hs (a.length+1) 0 [] U Qqd U).1;rw [Qxz] at this;exact this
theorem Acy{a:List UInt8}(hs:a.length<=1000000000000):Kv a=some (decide ((Zj a).map Qq6=[a])):=by
 unfold Kv;rw [Ac U,TX hs,Qq5];generalize Zj a=l
 match l with
 | []=>rw [if_neg Qqd];simp
 | [x]=>rw [if_pos (show(([x].length:Nat):Int)=1 from Z),Ac Qqd];simp
 | x::y::z=>rw [if_neg (by simp;omega)];simp
end Go.Proofs.YtekmbcbgknmhiaaGreatDoor
end
noncomputable section
namespace Go.Proofs.YtekmbcbgknmhiaaGreatDoor
open Go Go.E Go.RowKit Go.L
set_option maxHeartbeats 1000000
set_option maxRecDepth 10000
open _root_.Go.Proofs.Tryz
def Md(a b:Int):Option Int:=
 if a=3 then if b<2048 then some (0) else Qq4 (Ib b (55296:Int) (57343:Int)) (fun c=>if c then some (0) else if a=4 then Qq4 (Ib b (65536:Int) (1114111:Int)) (fun d=>if !d then some (0) else some a) else some a) else if a=4 then Qq4 (Ib b (65536:Int) (1114111:Int)) (fun e=>if !e then some (0) else some a) else some a
def KW(a0:AaV)(a1 c:Int):Int×Int->Option ((Int×Int) ⊕ (Int)):=fun⟨b,a⟩=>
 if a<c then AN (Bz (a1+a)) (AN (0<=(a1+a)/\(a1+a)<(a0.length:Int)) (Qq4 (Ib ((a0.getD ((a1+a).toNat) Qq2).toNat:Int) (128:Int) (191:Int)) (fun d=>if !d then Qq7 Sum.inr (some (0)) else AN (Bz (64 * b)) (AN (Bz ((64 * b)+((a0.getD ((a1+a).toNat) Qq2).toNat:Int))) (AN (Bz (((64 * b)+((a0.getD ((a1+a).toNat) Qq2).toNat:Int)) - 128)) (AN (Bz (a+1)) (some (Sum.inl ((((64 * b)+((a0.getD ((a1+a).toNat) Qq2).toNat:Int)) - 128),(a+1)))))))))) else Qq7 Sum.inr ((Md c) b)
def N9(a0:AaV)(a1 a:Int)(s:Int×Int):Option Int:=Go.L.run (KW a0 a1 a) s
def Jt(a0:AaV)(a1 a b:Int):Option Int:=
 if a=0 then some (0) else AN (Bz (a1+a)) (if(a0.length:Int)<(a1+a) then some (0) else(N9 a0 a1 a) (b,1))
def Me(a0:AaV)(a1 a b:Int):Option Int:=
 Qq4 (Ib ((a0.getD a1.toNat Qq2).toNat:Int) (240:Int) (244:Int)) (fun c=>if c then AN (Bz (((a0.getD a1.toNat Qq2).toNat:Int) - 240)) ((Jt a0 a1) (4:Int) (((a0.getD a1.toNat Qq2).toNat:Int) - 240)) else(Jt a0 a1) a b)
def NA(a0:AaV)(a1 a b:Int):Option Int:=
 Qq4 (Ib ((a0.getD a1.toNat Qq2).toNat:Int) (224:Int) (239:Int)) (fun c=>if c then AN (Bz (((a0.getD a1.toNat Qq2).toNat:Int) - 224)) ((Me a0 a1) (3:Int) (((a0.getD a1.toNat Qq2).toNat:Int) - 224)) else(Me a0 a1) a b)
def T2(a0:AaV)(a1:Int):Option Int:=
 AN (0<=a1/\a1<(a0.length:Int)) (Qq4 (Ib ((a0.getD a1.toNat Qq2).toNat:Int) (194:Int) (223:Int)) (fun a=>if a then AN (Bz (((a0.getD a1.toNat Qq2).toNat:Int) - 192)) ((NA a0 a1) (2:Int) (((a0.getD a1.toNat Qq2).toNat:Int) - 192)) else(NA a0 a1) (0:Int) (0:Int)))
def Ow(a0:AaV)(a1:Int):Option Int:=
 AN (0<=a1/\a1<(a0.length:Int)) (Qq4 (Ib ((a0.getD a1.toNat Qq2).toNat:Int) (48:Int) (57:Int)) (fun c=>if c then some (1) else Qq4 (Ib ((a0.getD a1.toNat Qq2).toNat:Int) (97:Int) (122:Int)) (fun d=>if d then some (1) else Qq4 (Ib ((a0.getD a1.toNat Qq2).toNat:Int) (65:Int) (90:Int)) (fun a=>if a then some (1) else Qq4 (T2 a0 a1) (fun b=>some b)))))
def MU(c:AaV)(a:Int)(b:UInt8):Option ((AaV×Int) ⊕ ((AaV×Int) ⊕ ((Akf×Int) ⊕ (Akf)))):=
 AN (Go.E.HK 1 (c.length+([b]).length)) (AN (Bz (a+1)) (some (Sum.inl ((c++[b]),(a+1)))))
def RI(a b:Int)(c:AaV):Option ((AaV×Int) ⊕ ((Akf×Int) ⊕ (Akf))):=
 AN (Bz (a+b)) (some (Sum.inl (c,(a+b))))
def Mf(a0:AaV)(b c:Int):AaV×Int->Option ((AaV×Int) ⊕ ((AaV×Int) ⊕ ((Akf×Int) ⊕ (Akf)))):=fun⟨d,a⟩=>
 AN (Bz (b+c)) (if a<(b+c) then AN (0<=a/\a<(a0.length:Int)) (if(65<=((a0.getD a.toNat Qq2).toNat:Int))/\(((a0.getD a.toNat Qq2).toNat:Int)<=90) then(MU d a) (a0.getD a.toNat Qq2+(32:UInt8)) else(MU d a) (a0.getD a.toNat Qq2)) else Qq7 Sum.inr ((RI b c) d))
def OF(a0:AaV)(a b:Int)(s:AaV×Int):Option ((AaV×Int) ⊕ ((Akf×Int) ⊕ (Akf))):=Go.L.run (Mf a0 a b) s
def MV(c:List (AaV×Int×Int))(b:Int)(d:AaV)(a:Int):Option ((Akf×Int) ⊕ (Akf)):=
 if b<a then AN (Go.E.HK 32 (c.length+([(d,b,a)]).length)) (AN (Bz (a+1)) (some (Sum.inl ((c++[(d,b,a)]),(a+1))))) else AN (Bz (a+1)) (some (Sum.inl (c,(a+1))))
def HW(a0:AaV)(d:List (AaV×Int×Int))(b:Int):AaV×Int->Option ((AaV×Int) ⊕ ((Akf×Int) ⊕ (Akf))):=fun⟨c,a⟩=>
 if a<(a0.length:Int) then Qq4 (Ow a0 a) (fun e=>if 0<e then Qq4 (Ow a0 a) (fun f=>(OF a0 a f) (c,a)) else Qq7 Sum.inr ((MV d b) c a)) else Qq7 Sum.inr ((MV d b) c a)
def W0(a0:AaV)(b:List (AaV×Int×Int))(a:Int)(s:AaV×Int):Option ((Akf×Int) ⊕ (Akf)):=Go.L.run (HW a0 b a) s
def RJ(a:List (AaV×Int×Int)):Option (Akf):=
 some a
def FL(a0:AaV):Akf×Int->Option ((Akf×Int) ⊕ (Akf)):=fun⟨b,a⟩=>
 if a<(a0.length:Int) then(W0 a0 b a) (([]:AaV),a) else Qq7 Sum.inr (RJ b)
def W2(a0:AaV)(s:Akf×Int):Option (Akf):=Go.L.run (FL a0) s
def VB(a0:AaV):Option (Akf):=
 (W2 a0) (([]:List (AaV×Int×Int)),0)
def Ob(a0:AaV):Option ((Int×Int)):=
 if 64<(a0.length:Int) then Qq4 (LO (3:Int) (-1:Int)) (fun d=>some ((d.1,d.2))) else AN (a0.length<=9223372036854775807) (Qq4 (VB a0) (fun a=>if(a.length:Int)=1 then AN (0<=(0:Int)/\(0:Int)<(a.length:Int)) (if(a.getD ((0:Int).toNat) Qq2).1=a0 then some ((0,0)) else Qq4 (LO (6:Int) (-1:Int)) (fun b=>some ((b.1,b.2)))) else Qq4 (LO (6:Int) (-1:Int)) (fun c=>some ((c.1,c.2)))))
end Go.Proofs.YtekmbcbgknmhiaaGreatDoor
end
noncomputable section
namespace Go.Proofs.YtekmbcbgknmhiaaGreatDoor
open Go Go.L
theorem Qa(x y z:Int):Ib x y z=some (decide (y<=x/\x<=z)):=Z
theorem XV{a:List UInt8}{i:Nat}(k:Nat){z:Int}(hz:z=((i+k:Nat):Int)):((a.getD z.toNat Qq2).toNat:Int)=((bt (a.drop i) k:Nat):Int):=by
 subst hz;rw [Ag1,Qq8]
 rfl
theorem NJ{a:List UInt8}(hs:a.length<=1000000000000)(i k:Nat)(n:Nat)(p:Nat)(hp:p<=1000000000)(hk:k<n)(_h4:n<=4)(hlen:i+n<=a.length):
  KW a (i:Int) (n:Int) ((p:Int),(k:Int))=if cont (a.drop i) k then some (.inl (((p * 64+(bt (a.drop i) k - 128):Nat):Int),((k+1:Nat):Int))) else some (.inr 0):=by
 unfold KW;have hb:bt (a.drop i) k<256:=Qx1 _;have hg:=XV (a:=a) (i:=i) k (z:=(i:Int)+(k:Int)) U;simp only;rw [if_pos U,Ac (by constructor <;> omega),Ac ⟨by omega,by omega⟩,hg,Qa,Qq5]
 have hc:cont (a.drop i) k=decide ((128:Int)<=((bt (a.drop i) k:Nat):Int)/\((bt (a.drop i) k:Nat):Int)<=191):=by
  unfold cont;rw [QzC]
  congr 1
  apply propext
  constructor
  ·rintro⟨_,h2,h3⟩;exact⟨by omega,by omega⟩
  ·rintro⟨h2,h3⟩;exact⟨by omega,by omega,by omega⟩
 rw [hc]
 by_cases h:(128:Int)<=((bt (a.drop i) k:Nat):Int)/\((bt (a.drop i) k:Nat):Int)<=191
 ·rw [decide_eq_true h,if_neg Qqc,if_pos Z,Ac (by constructor <;> omega),Ac (by constructor <;> omega),Ac (by constructor <;> omega),Ac (by constructor <;> omega)]
  congr 3
  ·omega
 ·rw [decide_eq_false h,if_pos Qqc,if_neg Qqc]
  rfl
theorem T3{a:List UInt8}{i:Nat}(n:Nat)(p:Nat):KW a (i:Int) (n:Int) ((p:Int),(n:Int))=(Md (n:Int) (p:Int)).map Sum.inr:=by
 unfold KW;simp only;rw [if_neg U]
theorem size_eq{a:List UInt8}(hs:a.length<=1000000000000){i:Nat}(hi:i<a.length):T2 a (i:Int)=some ((PZ (a.drop i):Nat):Int):=by
 have o:bt (a.drop i) 0<256:=Qx1 _;have hg:=XV (a:=a) (i:=i) 0 (z:=(i:Int)) U;have k3z:∀ s,Jt a (i:Int) 0 s=some 0:=fun s=>by unfold Jt;rw [if_pos Z]
 -- the loop for n bytes
 have hc:∀ k,cont (a.drop i) k=true->i+k<a.length:=fun k h=>by
  have:=(of_decide_eq_true h).1;rw [QzC] at this;omega
 unfold T2;rw [Ac ⟨by omega,by omega⟩,hg,Qa,Qq5];unfold PZ
 by_cases hA:194<=bt (a.drop i) 0/\bt (a.drop i) 0<=223
 ·rw [decide_eq_true ⟨by omega,by omega⟩,if_pos Z,Ac (by constructor <;> omega),if_pos hA];unfold NA Me Jt;rw [hg,Qa,Qq5,decide_eq_false U,if_neg Qqc,Qa,Qq5,decide_eq_false U,if_neg Qqc,if_neg Qqc,Ac (by constructor <;> omega)]
  by_cases h2:i+2<=a.length
  ·rw [if_neg U];have e:((bt (a.drop i) 0:Nat):Int) - 192=((bt (a.drop i) 0 - 192:Nat):Int):=by omega
   rw [e];unfold N9;have s1:=NJ hs i 1 2 (bt (a.drop i) 0 - 192) U Qqc Qqc h2
   by_cases c1:cont (a.drop i) 1=true
   ·rw [if_pos c1] at s1 ⊢;refine(Be s1).trans (AP (m:=some 2) ((T3 2 _).trans ?_));unfold Md;rw [if_neg Qqc,if_neg Qqc]
    rfl
   ·rw [if_neg c1] at s1 ⊢;exact AP (m:=some 0) s1
  ·rw [if_pos U,if_neg (fun h=>by have:=hc 1 h;omega)]
   rfl
 rw [decide_eq_false U,if_neg Qqc,if_neg hA];unfold NA;rw [hg,Qa,Qq5]
 by_cases hB:224<=bt (a.drop i) 0/\bt (a.drop i) 0<=239
 ·rw [decide_eq_true ⟨by omega,by omega⟩,if_pos Z,Ac (by constructor <;> omega),if_pos hB];unfold Me Jt;rw [hg,Qa,Qq5,decide_eq_false U,if_neg Qqc,if_neg Qqc,Ac (by constructor <;> omega)]
  by_cases h2:i+3<=a.length
  ·rw [if_neg U];have e:((bt (a.drop i) 0:Nat):Int) - 224=((bt (a.drop i) 0 - 224:Nat):Int):=by omega
   rw [e];unfold N9;have g:bt (a.drop i) 1<256:=Qx1 _;have j:bt (a.drop i) 2<256:=Qx1 _;have s1:=NJ hs i 1 3 (bt (a.drop i) 0 - 224) U Qqc Qqc h2;have b:=NJ hs i 2 3 ((bt (a.drop i) 0 - 224) * 64+(bt (a.drop i) 1 - 128)) U Qqc Qqc h2
   by_cases c1:cont (a.drop i) 1=true
   ·rw [if_pos c1] at s1;refine(Be s1).trans ?_
    by_cases c2:cont (a.drop i) 2=true
    ·rw [if_pos c2] at b;refine(Be b).trans (AP (m:=some _) ((T3 3 _).trans (congrArg _ ?_)));have f:((bt (a.drop i) 0 - 224) * 64+(bt (a.drop i) 1 - 128)) * 64+(bt (a.drop i) 2 - 128)=pt3 (a.drop i):=Z;rw [f];unfold Md;rw [if_pos Qqc]
     by_cases c:2048<=pt3 (a.drop i)
     ·rw [if_neg U,Qa,Qq5]
      by_cases l:55296<=pt3 (a.drop i)/\pt3 (a.drop i)<=57343
      ·rw [decide_eq_true ⟨by omega,by omega⟩,if_pos Z,if_neg (fun h=>h.2.2.2 l)];rfl
      ·rw [decide_eq_false U,if_neg Qqc,if_neg Qqc,if_pos ⟨c1,c2,c,l⟩]
     ·rw [if_pos U,if_neg (fun h=>c h.2.2.1)];rfl
    ·rw [if_neg c2] at b;rw [if_neg (fun h=>c2 h.2.1)];exact AP (m:=some 0) b
   ·rw [if_neg c1] at s1;rw [if_neg (fun h=>c1 h.1)];exact AP (m:=some 0) s1
  ·rw [if_pos U,if_neg (fun h=>by have:=hc 2 h.2.1;omega)]
   rfl
 rw [decide_eq_false U,if_neg Qqc,if_neg hB];unfold Me;rw [hg,Qa,Qq5]
 by_cases hC:240<=bt (a.drop i) 0/\bt (a.drop i) 0<=244
 ·rw [decide_eq_true ⟨by omega,by omega⟩,if_pos Z,Ac (by constructor <;> omega),if_pos hC];unfold Jt;rw [if_neg Qqc,Ac (by constructor <;> omega)]
  by_cases h2:i+4<=a.length
  ·rw [if_neg U];have e:((bt (a.drop i) 0:Nat):Int) - 240=((bt (a.drop i) 0 - 240:Nat):Int):=by omega
   rw [e];unfold N9;have g:bt (a.drop i) 1<256:=Qx1 _;have j:bt (a.drop i) 2<256:=Qx1 _;have p:bt (a.drop i) 3<256:=Qx1 _;have s1:=NJ hs i 1 4 (bt (a.drop i) 0 - 240) U Qqc Qqc h2;have b:=NJ hs i 2 4 ((bt (a.drop i) 0 - 240) * 64+(bt (a.drop i) 1 - 128)) U Qqc Qqc h2;have d:=NJ hs i 3 4 (((bt (a.drop i) 0 - 240) * 64+(bt (a.drop i) 1 - 128)) * 64+(bt (a.drop i) 2 - 128)) U Qqc Qqc h2
   by_cases c1:cont (a.drop i) 1=true
   ·rw [if_pos c1] at s1;refine(Be s1).trans ?_
    by_cases c2:cont (a.drop i) 2=true
    ·rw [if_pos c2] at b;refine(Be b).trans ?_
     by_cases c3:cont (a.drop i) 3=true
     ·rw [if_pos c3] at d;refine(Be d).trans (AP (m:=some _) ((T3 4 _).trans (congrArg _ ?_)));have f:(((bt (a.drop i) 0 - 240) * 64+(bt (a.drop i) 1 - 128)) * 64+(bt (a.drop i) 2 - 128)) * 64+(bt (a.drop i) 3 - 128)=pt4 (a.drop i):=Z;rw [f];unfold Md;rw [if_neg Qqc,if_pos Qqc,Qa,Qq5]
      by_cases c:65536<=pt4 (a.drop i)/\pt4 (a.drop i)<=1114111
      ·rw [decide_eq_true ⟨by omega,by omega⟩,if_neg Qqc,if_pos ⟨c1,c2,c3,c⟩]
      ·rw [decide_eq_false U,if_pos Qqc,if_neg (fun h=>c h.2.2.2)];rfl
     ·rw [if_neg c3] at d;rw [if_neg (fun h=>c3 h.2.2.1)];exact AP (m:=some 0) d
    ·rw [if_neg c2] at b;rw [if_neg (fun h=>c2 h.2.1)];exact AP (m:=some 0) b
   ·rw [if_neg c1] at s1;rw [if_neg (fun h=>c1 h.1)];exact AP (m:=some 0) s1
  ·rw [if_pos U,if_neg (fun h=>by have:=hc 3 h.2.2.1;omega)]
   rfl
 rw [decide_eq_false U,if_neg Qqc,if_neg hC,k3z]
 rfl
theorem Aaw{a:List UInt8}(hs:a.length<=1000000000000){i:Nat}(hi:i<a.length):Ow a (i:Int)=some ((MT (a.drop i):Nat):Int):=by
 have hg:=XV (a:=a) (i:=i) 0 (z:=(i:Int)) U;unfold Ow;rw [Ac ⟨by omega,by omega⟩,hg,Qa,Qq5];unfold MT asc
 by_cases b:48<=bt (a.drop i) 0/\bt (a.drop i) 0<=57
 ·rw [decide_eq_true ⟨by omega,by omega⟩,if_pos Z,if_pos (decide_eq_true (.inl b))];rfl
 rw [decide_eq_false U,if_neg Qqc,Qa,Qq5]
 by_cases h2:97<=bt (a.drop i) 0/\bt (a.drop i) 0<=122
 ·rw [decide_eq_true ⟨by omega,by omega⟩,if_pos Z,if_pos (decide_eq_true (.inr (.inl h2)))];rfl
 rw [decide_eq_false U,if_neg Qqc,Qa,Qq5]
 by_cases h3:65<=bt (a.drop i) 0/\bt (a.drop i) 0<=90
 ·rw [decide_eq_true ⟨by omega,by omega⟩,if_pos Z,if_pos (decide_eq_true (.inr (.inr h3)))];rfl
 rw [decide_eq_false U,if_neg Qqc,size_eq hs hi,Qq5,if_neg (fun h=>by have:=of_decide_eq_true h;omega)]
end Go.Proofs.YtekmbcbgknmhiaaGreatDoor
namespace Go.Proofs.YtekmbcbgknmhiaaGreatDoor
open Go Go.L
theorem Aep{a:List UInt8}{e j:Nat}(h:e+j<a.length):((a.drop e).take (j+1)).map Js=((a.drop e).take j).map Js++[Js (a.getD (e+j) Qq2)]:=by
 have b:(a.drop e)[j]? = some (a.getD (e+j) Qq2):=by
  rw [Qxv,Qzq,Qzw h]
  rfl
 rw [QxX,b,List.map_append]
 rfl
theorem Aeq{a:List UInt8}(hs:a.length<=1000000000000){e n:Nat}(h:e+n<=a.length)(low:List UInt8)(hl:low.length<=e):
  OF a (e:Int) (n:Int) (low,(e:Int))=some (.inl (low++((a.drop e).take n).map Js,((e+n:Nat):Int))):=by
 unfold OF
 have key:=DM (b:=Mf a (e:Int) (n:Int)) (m:=some (.inl (low++((a.drop e).take n).map Js,((e+n:Nat):Int)))) (fun j=>(low++((a.drop e).take j).map Js,((e+j:Nat):Int))) n (fun j hj=>by
  unfold Mf;simp only;rw [Ac (by constructor <;> omega),if_pos U,Ac ⟨by omega,by omega⟩,Qq8]
  have hlen:(low++((a.drop e).take j).map Js).length+[Js (a.getD (e+j) Qq2)].length<=2000000000002:=by
   rw [Qzu,Qzk,QzK,QzC,QxC];omega
  have hk:MU (low++((a.drop e).take j).map Js) ((e+j:Nat):Int) (Js (a.getD (e+j) Qq2))=some (.inl (low++((a.drop e).take (j+1)).map Js,((e+(j+1):Nat):Int))):=by
   unfold MU;rw [Ac (by constructor <;> omega),Ac (by constructor <;> omega),Aep U,Qxd]
   congr 3
  rw [<- hk];unfold Js
  split
  ·rfl
  ·rfl) (by
  unfold Mf RI;simp only;rw [Ac (by constructor <;> omega),if_neg U,Ac (by constructor <;> omega)]
  congr 3) 0 (hi:=(by omega))
 simp only [List.take_zero,List.map_nil,QzX,Qxx] at key;exact key
theorem XW{a:List UInt8}{at':Nat}(h:a.length<=at')(L:List W):run (FL a) (L,(at':Int))=some L:=by
 refine AP (m:=some L) ?_;unfold FL RJ;simp only;rw [if_neg U]
theorem Aer{a:List UInt8}(hs:a.length<=1000000000000)(L:List W){fr at':Nat}(hL:L.length<=at')(ha:at'<=a.length)(cur:List UInt8)(hfr:fr<=at')(hc:cur=[]↔fr=at'):
  MV L (fr:Int) cur (at':Int)=some (.inl (L++fin cur fr at',((at'+1:Nat):Int))):=by
 unfold MV fin
 by_cases h:fr=at'
 ·rw [if_neg U,Ac (by constructor <;> omega),if_pos (hc.2 h),QzX]
  congr 3
 ·rw [if_pos U,Ac (by rw [QxC];constructor <;> omega),Ac (by constructor <;> omega),if_neg (fun e=>h (hc.1 e))]
  congr 3
theorem Ag4{a:List UInt8}(hs:a.length<=1000000000000):∀ (f at':Nat) (L:List W),a.length<=at'+f->L.length<=at'->at'<=a.length+1->
  run (FL a) (L,(at':Int))=some (L++VA a f at' [] at')/\
  ∀
   (cur:List UInt8) (fr:Nat),at'<=a.length->fr<=at'->cur.length<=at'->(cur=[]↔fr=at')->∃ s,run (HW a L (fr:Int)) (cur,(at':Int))=some (.inl s)/\
   run (FL a) s=some (L++VA a f at' cur fr):=by
 have E:∀ (f at':Nat) (L:List W),a.length<=at'->L.length<=at'->∀ (cur:List UInt8) (fr:Nat),at'<=a.length->fr<=at'->(cur=[]↔fr=at')->∃ s,run (HW a L (fr:Int)) (cur,(at':Int))=some (.inl s)/\
   run (FL a) s=some (L++VA a f at' cur fr):=by
  intro f at' L h hL cur fr hle hfr hc;refine⟨(L++fin cur fr at',((at'+1:Nat):Int)),?_,?_⟩
  ·refine AP (m:=some (Sum.inl (L++fin cur fr at',((at'+1:Nat):Int)):WS)) ?_;unfold HW;simp only;rw [if_neg U,Aer hs L hL hle cur hfr hc]
  ·rw [XW U,Rn h]
 intro f
 induction f with
 | zero=>
  intro at' L hf hL ha
  constructor
  ·rw [XW U,Rn U];unfold fin;rw [if_pos Z,QzX]
  ·intro cur fr hle hfr _ hc;exact E 0 at' L U hL cur fr hle hfr hc
 | succ f ih=>
  intro at' L hf hL ha
  have B:∀ (cur:List UInt8) (fr:Nat),at'<=a.length->fr<=at'->cur.length<=at'->(cur=[]↔fr=at')->∃ s,run (HW a L (fr:Int)) (cur,(at':Int))=some (.inl s)/\
   run (FL a) s=some (L++VA a (f+1) at' cur fr):=by
   intro cur fr hle hfr hcl hc
   by_cases h:at'<a.length
   ·have hroom:=QL h;have hlow:=XU h;have hl:=Aaw hs h;unfold VA;rw [if_pos h]
    by_cases c:MT (a.drop at')=0
    ·rw [if_pos c];refine⟨(L++fin cur fr at',((at'+1:Nat):Int)),?_,?_⟩
     ·refine AP (m:=some (Sum.inl (L++fin cur fr at',((at'+1:Nat):Int)):WS)) ?_;unfold HW;simp only;rw [if_pos U,hl,Qq5,if_neg U,Aer hs L hL hle cur hfr hc]
     ·have b:=(ih (at'+1) (L++fin cur fr at') U (by rw [Qzu];have:=XT cur fr at';omega) U).1;rw [b,Qxd]
    ·rw [if_neg c];have hne:((a.drop at').take (MT (a.drop at'))).map Js≠[]:=fun e=>by rw [e,Qze] at hlow;omega
     obtain⟨s,b,h2⟩:=(ih (at'+MT (a.drop at')) L U U U).2 (cur++((a.drop at').take (MT (a.drop at'))).map Js) fr hroom U (by rw [Qzu,hlow];omega) ⟨fun e=>absurd (List.append_eq_nil_iff.1 e).2 hne,fun e=>by omega⟩;refine⟨s,?_,h2⟩;rw [<- b];refine Be ?_;unfold HW;simp only;rw [if_pos U,hl,Qq5,if_pos U,Qq5,Aeq hs hroom cur hcl]
   ·exact E (f+1) at' L U hL cur fr hle hfr hc
  refine⟨?_,B⟩
  by_cases h:at'<a.length
  ·obtain⟨s,b,h2⟩:=B [] at' U U Qqd ⟨fun _=>Z,fun _=>Z⟩
   have hb:FL a (L,(at':Int))=some (.inl s):=by
    unfold FL;simp only;rw [if_pos U];exact b
   rw [Be hb];exact h2
  ·rw [XW U,Rn U];unfold fin;rw [if_pos Z,QzX]
theorem Acz{a:List UInt8}(hs:a.length<=1000000000000):VB a=some (Zj a):=by
 have:=(Ag4 hs (a.length+1) 0 [] U Qqd U).1;rw [Qxz] at this;exact this
def wf(a:List UInt8):Int×Int:=if 64<a.length then(3,-1) else if(Zj a).map Qq6=[a] then(0,0) else(6,-1)
theorem Oc(a:List UInt8):H9 a=some (wf a):=by
 unfold H9 wf
 by_cases h:64<a.length
 ·rw [if_pos U,if_pos h];rfl
 ·rw [if_neg U,if_neg h,Acy U,Qq5]
  by_cases b:(Zj a).map Qq6=[a]
  ·rw [decide_eq_true b,if_neg Qqc,if_pos b]
  ·rw [decide_eq_false b,if_pos Qqc,if_neg b];rfl
theorem XX(a:List UInt8):Ob a=some (wf a):=by
 unfold Ob wf
 by_cases h:64<a.length
 ·rw [if_pos U,if_pos h];rfl
 ·rw [if_neg U,if_neg h,Ac U,Acz U,Qq5];generalize Zj a=l
  match l with
  | []=>rw [if_neg Qqd,if_neg Qqd];rfl
  | [x]=>
   rw [if_pos (show(([x].length:Nat):Int)=1 from Z),Ac Qqd]
   show(if x.1=a then _ else _)=_
   by_cases b:x.1=a
   ·rw [if_pos b,if_pos (by simp [b])]
   ·rw [if_neg b,if_neg (by simp [b])];rfl
  | x::y::z=>rw [if_neg (by simp;omega),if_neg Qqd];rfl
theorem Sc{a:List UInt8}:∀ (f at':Nat) (cur:List UInt8) (fr:Nat),at'<=a.length->(VA a f at' cur fr).length+at'<=a.length+1
 | 0,at',cur,fr,h=>by unfold VA;have:=XT cur fr at';omega
 | f+1,at',cur,fr,h=>by
  unfold VA;have:=XT cur fr at'
  split
  ·rename_i b
   split
   ·rw [Qzu];have:=Sc (a:=a) f (at'+1) [] (at'+1) U;omega
   ·have:=Sc (a:=a) f (at'+MT (a.drop at')) (cur++((a.drop at').take (MT (a.drop at'))).map Js) fr (QL b);omega
  ·omega
theorem XY(a:List UInt8):(Zj a).length<=a.length+1:=Sc (a:=a) (a.length+1) 0 [] 0 (Qz5 _)
end Go.Proofs.YtekmbcbgknmhiaaGreatDoor
end
noncomputable section
namespace Go.L
def RL:List UInt8->List UInt8->List (List UInt8)
 | cur,[]=>[cur]
 | cur,c::s=>if c=47 then cur::RL [] s else RL (cur++[c]) s
theorem XZ:∀ (s cur:List UInt8),RL cur s=(cur++(RL [] s).headD [])::(RL [] s).tail
 | [],cur=>by simp [RL]
 | c::s,cur=>by
  unfold RL
  by_cases h:c=47
  ·rw [if_pos h,if_pos h];simp
  ·rw [if_neg h,if_neg h,XZ s (cur++[c]),XZ s ([]++[c])];simp
theorem Ya:∀ (s cur:List UInt8),(RL cur s).length<=s.length+1
 | [],_=>by simp [RL]
 | c::s,cur=>by
  unfold RL
  split
  ·have:=Ya s [];simp only [Qzj];omega
  ·have:=Ya s (cur++[c]);simp only [Qzj];omega
def TY:List (List UInt8)->Nat
 | []=>0
 | x::l=>x.length+1+TY l
theorem Yb:∀ (s cur:List UInt8),TY (RL cur s)=cur.length+s.length+1
 | [],cur=>by simp [RL,TY]
 | c::s,cur=>by
  unfold RL
  split
  ·unfold TY;rw [Yb s []];simp only [Qzj,Qze];omega
  ·rw [Yb s];simp only [Qzu,Qzj,Qze];omega
theorem VC:∀ s:List UInt8,Lib.splitK [47] 0 (s.count 47) s=RL [] s
 | []=>rfl
 | c::s=>by
  have ih:=VC s
  have hi:Lib.index (c::s) [47]=if c==47 then 0 else if Lib.index s [47] == -1 then -1 else Lib.index s [47]+1:=by
   rw [Lib.index_one,Lib.index_one];rfl
  by_cases h:c=47
  ·subst h;rw [List.count_cons_self];unfold Lib.splitK RL;rw [hi];simp [ih]
  ·have hb:(c==47)=false:=by simpa using h
   rw [List.count_cons_of_ne (fun e=>h e)]
   have hp:RL [] (c::s)=([c]++(RL [] s).headD [])::(RL [] s).tail:=by
    conv=>lhs;unfold RL
    rw [if_neg h,XZ s ([]++[c])];rfl
   rw [hp,<- ih]
   cases hk:s.count 47 with
   | zero=>rfl
   | succ k=>
    unfold Lib.splitK;rw [hi,hb]
    by_cases a:(Lib.index s [47] == -1)=true
    ·simp [a]
    ·have hge : -1<=Lib.index s [47]:=Lib.index_ge s [47];have h2:0<=Lib.index s [47]:=by have:Lib.index s [47]≠-1:=fun e=>a (by simp [e]);omega
     obtain⟨i,b⟩:=QxJ h2;have h3:((i:Int)+1 == -1)=false:=by simp;omega
     have d:((i:Int) == -1)=false:=by simp
     rw [b] at a ⊢;simp [h3,d,show((i:Int)+1).toNat=i+1 by omega]
def sl(s:List UInt8):List (List UInt8):=if s=[] then[] else RL [] s
theorem Aes(s:List UInt8):(sl s).length<=s.length+1:=by unfold sl;split;simp;exact Ya s []
theorem Aet(s:List UInt8):TY (sl s)<=s.length+1:=by unfold sl;split;simp [TY];rw [Yb];simp
theorem Yc:∀ {l:List (List UInt8)} {x:List UInt8},x∈l->x.length<TY l
 | y::l,x,h=>by
  unfold TY
  rcases List.mem_cons.1 h with rfl | h
  ·omega
  ·have:=Yc h;omega
def Yy(c:UInt8):Bool:=decide ((97<=c.toNat/\c.toNat<=122)\/(48<=c.toNat/\c.toNat<=57)\/c.toNat=45\/c.toNat=95\/c.toNat=46)
def SI(s:List UInt8):Bool:=decide (1<=s.length/\s.length<=32/\97<=(s.getD 0 Qq2).toNat/\(s.getD 0 Qq2).toNat<=122)&&s.all Yy
def wr(w:Bool):Int->List (List UInt8)->Int
 | _,[]=>-1
 | a,x::l=>if(SI x||decide (x=[35])||(w&&(decide (x=[42])||decide (x=[42,42]))))=true then wr w (a+x.length+1) l else a
theorem drop_cons{α:Type}[Inhabited α]{l:List α}{i:Nat}(h:i<l.length):l.drop i=l.getD i Qq2::l.drop (i+1):=by
 rw [List.drop_eq_getElem_cons h];simp [Qzq,Qzw h]
theorem Ew{α:Type}[Inhabited α]{l:List α}{i:Nat}(h:i<l.length):l.getD i Qq2∈l:=by
 rw [Qzq,Qzw h];exact List.getElem_mem h
end Go.L
namespace Go.Proofs.YtekmbcbgknmhiaaGreatDoor
open Go Go.L
theorem VD{s:List UInt8}(h:s.length<4294967281):Iw s=some (sl s):=by
 unfold Iw sl
 by_cases hs:s=[]
 ·rw [if_pos hs,if_pos hs]
 ·rw [if_neg hs,if_neg hs];unfold strings_Split Rj;rw [Ac ⟨h,Z,Z,Z⟩]
  show some (pieces s)=some (RL [] s)
  unfold pieces Lib.split;rw [Lib.count_one,VC]
theorem W3{s:List UInt8}(hs:s.length<=1000000000000):∀ (d i f:Nat) (L:List (List UInt8)),i+d=s.length->f<=i->L.length<=i->
  Go.L.run (Fu s) (L,(f:Int),(i:Int))=some (L++RL ((s.drop f).take (i - f)) (s.drop i)):=by
 intro d
 induction d with
 | zero=>
  intro i f L hi hf hL
  have a:Fu s (L,(f:Int),(i:Int))=some (.inl (L++[(s.drop f).take (i - f)],((i+1:Nat):Int),((i+1:Nat):Int))):=by
   unfold Fu;simp only [Qq8];rw [if_pos U,if_pos U,Ac U,Ac (by unfold Go.E.HK;simp;omega),Ac (by unfold Bz;omega),Ac (by unfold Bz;omega)]
   rfl
  rw [Be a,AP (m:=some (L++[(s.drop f).take (i - f)]))]
  ·rw [Qz1 (by omega:s.length<=i)];rfl
  ·unfold Fu;dsimp only;rw [if_neg U]
   rfl
 | succ d ih=>
  intro i f L hi hf hL;have hil:i<s.length:=by omega
  have hd:=drop_cons hil
  by_cases hc:s.getD i Qq2=47
  ·have a:Fu s (L,(f:Int),(i:Int))=some (.inl (L++[(s.drop f).take (i - f)],((i+1:Nat):Int),((i+1:Nat):Int))):=by
    unfold Fu;simp only [Qq8];rw [if_pos U,if_neg U,Ac U,if_pos (by rw [hc];rfl),Ac U,Ac (by unfold Go.E.HK;simp;omega),Ac (by unfold Bz;omega),Ac (by unfold Bz;omega)]
    rfl
   rw [Be a,ih (i+1) (i+1) _ U (Qzx _) (by simp;omega),hd]
   conv=>rhs;unfold RL
   rw [if_pos hc,Nat.sub_self,List.take_zero,Qxd]
   rfl
  ·have a:Fu s (L,(f:Int),(i:Int))=some (.inl (L,(f:Int),((i+1:Nat):Int))):=by
    unfold Fu;simp only [Qq8];rw [if_pos U,if_neg U,Ac U,if_neg (fun e=>hc (UInt8.toNat.inj (show(s.getD i Qq2).toNat=47 by omega))),Ac (by unfold Bz;omega)]
    rfl
   rw [Be a,ih (i+1) f _ U U U,hd]
   conv=>rhs;unfold RL
   rw [if_neg hc]
   congr 2
   rw [show i+1 - f=(i - f)+1 by omega,QxX,Qxv,show f+(i - f)=i by omega,Qzw hil];simp [Qzq,Qzw hil]
theorem Ac0{s:List UInt8}(hs:s.length<=1000000000000):RW s=some (sl s):=by
 unfold RW sl
 split
 ·rfl
 ·have:=W3 hs s.length 0 0 [] U (Qzx _) (Qzx _);exact this
theorem Aax{s:List UInt8}(hs:s.length<=1000000000000):∀ (d i:Nat),i+d=s.length->1<=i->Go.L.run (EO s) (i:Int)=some ((s.drop i).all Yy&&decide (1<=s.length/\s.length<=32)):=by
 intro d
 induction d with
 | zero=>
  intro i hi h;refine AP ?_;unfold EO Q5 Ib;rw [if_neg U,Qz1 (by omega:s.length<=i)];simp only [Qq5,Option.map_some,List.all_nil,Qku]
  congr 2
  rw [decide_eq_decide];omega
 | succ d ih=>
  intro i hi h;have hil:i<s.length:=by omega
  rw [drop_cons hil,QxE]
  have hstep:EO s (i:Int)=if Yy (s.getD i Qq2) then some (.inl ((i+1:Nat):Int)) else some (.inr false):=by
   unfold EO Ib Yy;rw [if_pos U,Ac U,Qq8];have hk:Bz ((i:Int)+1):=by unfold Bz;omega
   have hz : ¬ ((i:Int)=0):=by omega
   simp only [Qq5,Ac hk,if_neg hz];generalize (s.getD i Qq2).toNat=c;have j:(decide ((97:Int)<=(c:Int)/\(c:Int)<=122))=decide (97<=c/\c<=122):=by rw [decide_eq_decide];omega
   have k:(decide ((48:Int)<=(c:Int)/\(c:Int)<=57))=decide (48<=c/\c<=57):=by rw [decide_eq_decide];omega
   rw [j,k]
   by_cases a:97<=c/\c<=122
   ·simp [a]
   ·by_cases b:48<=c/\c<=57
    ·simp [a,b]
    ·by_cases e:c=45
     ·subst e;simp
     ·by_cases f:c=95
      ·subst f;simp
      ·by_cases g:c=46
       ·subst g;simp
       ·have k3' : ¬ ((c:Int)=45):=by omega
        have k4' : ¬ ((c:Int)=95):=by omega
        have k5' : ¬ ((c:Int)=46):=by omega
        simp [a,b,e,f,g,k3',k4',k5']
  by_cases hn:Yy (s.getD i Qq2)=true
  ·rw [if_pos hn] at hstep;rw [Be hstep,ih (i+1) U U,hn,Qku]
  ·rw [if_neg hn] at hstep;have hn':Yy (s.getD i Qq2)=false:=by simpa using hn
   rw [AP (m:=some false) hstep,hn',Bool.false_and,Bool.false_and]
theorem Ac1{s:List UInt8}(hs:s.length<=1000000000000):Q7 s=some (SI s):=by
 unfold Q7 Q6
 by_cases b:s=[]
 ·subst b;refine AP ?_
  rfl
 ·have hl:0<s.length:=Qkc.2 b;have hd:s=s.getD 0 Qq2::s.drop 1:=by have:=drop_cons hl;simpa using this
  by_cases hc:97<=(s.getD 0 Qq2).toNat/\(s.getD 0 Qq2).toNat<=122
  ·have a:EO s (0:Int)=some (.inl ((1:Nat):Int)):=by
    unfold EO Ib;rw [if_pos U,Ac U];simp only [Qq5,Int.toNat_zero];have hh:(decide ((97:Int)<=((s.getD 0 Qq2).toNat:Int)/\((s.getD 0 Qq2).toNat:Int)<=122))=true:=by rw [decide_eq_true_eq];omega
    rw [hh,if_neg Qqc,Ac (by unfold Bz;omega)]
    rfl
   rw [Be a,Aax hs (s.length - 1) 1 U (Qzx _)];unfold SI;have hn:Yy (s.getD 0 Qq2)=true:=by unfold Yy;rw [decide_eq_true_eq];exact .inl hc
   have ha:s.all Yy=(s.drop 1).all Yy:=by conv=>lhs;rw [hd,QxE,hn,Qku]
   rw [ha,Bool.and_comm]
   congr 2
   rw [decide_eq_decide]
   constructor
   ·intro h;exact⟨h.1,h.2,hc.1,hc.2⟩
   ·intro h;exact⟨h.1,h.2.1⟩
  ·have a:EO s (0:Int)=some (.inr false):=by
    unfold EO Ib;rw [if_pos U,Ac U];simp only [Qq5,Int.toNat_zero];have hh:(decide ((97:Int)<=((s.getD 0 Qq2).toNat:Int)/\((s.getD 0 Qq2).toNat:Int)<=122))=false:=by rw [decide_eq_false_iff_not];omega
    rw [hh]
    rfl
   rw [AP (m:=some false) a];unfold SI;rw [show(decide (1<=s.length/\s.length<=32/\97<=(s.getD 0 Qq2).toNat/\(s.getD 0 Qq2).toNat<=122))=false by rw [decide_eq_false_iff_not];intro h;exact hc ⟨h.2.2.1,h.2.2.2⟩]
   rfl
theorem Xc(l:List UInt8)(k:Nat):((ByteArray.mk l.toArray).get! k).toNat=(l.getD k Qq2).toNat:=by
 simp [ByteArray.get!,Qzq,getElem!_def]
 cases l[k]? <;> rfl
theorem Ag5{l:List UInt8}{p:Nat}(h:(l.getD p Qq2).toNat<128):Utf8.decode ⟨l.toArray⟩ p=((l.getD p Qq2).toNat,1):=by
 unfold Utf8.decode;simp only [Qxx,Xc];rw [if_pos h]
theorem Aeu{l:List UInt8}{p:Nat}(h : ¬ (l.getD p Qq2).toNat<128):128<=(Utf8.decode ⟨l.toArray⟩ p).1:=by
 unfold Utf8.decode;simp only [Qxx,Xc];rw [if_neg h]
 split
 ·split
  ·rename_i h2;simpa using h2
  ·decide
 ·split
  ·split
   ·rename_i h2;simp only [ge_iff_le,Qzb,decide_eq_true_eq] at h2;show 128<=_;omega
   ·decide
  ·split
   ·split
    ·rename_i h2;simp only [ge_iff_le,Qzb,decide_eq_true_eq] at h2;show 128<=_;omega
    ·decide
   ·decide
theorem Aev(c:UInt8):XP c.toNat = !(Yy c):=by
 unfold XP Yy;generalize c.toNat=n;rw [Qz3];simp;omega
theorem Aew{a:List UInt8}:∀ (f p:Nat),a.length<=p+f->(0<=Lib.idxFuncFrom XP true ⟨a.toArray⟩ f p↔(a.drop p).all Yy=false)
 | 0,p,h=>by
  rw [Qz1 U];simp [Lib.idxFuncFrom]
 | f+1,p,h=>by
  have hsz:(ByteArray.mk a.toArray).size=a.length:=by simp [Qxc]
  unfold Lib.idxFuncFrom;rw [hsz]
  by_cases hp:p<a.length
  ·rw [if_pos hp,drop_cons hp,QxE]
   by_cases hc:(a.getD p Qq2).toNat<128
   ·rw [Ag5 hc];simp only [Aev]
    by_cases hn:Yy (a.getD p Qq2)=true
    ·rw [hn,if_neg Qqc,Qku];exact Aew f (p+1) U
    ·have hn':Yy (a.getD p Qq2)=false:=by simpa using hn
     rw [hn',if_pos Qqc];simp
   ·have hb:XP (Utf8.decode ⟨a.toArray⟩ p).1=true:=by
     have:=Aeu hc;unfold XP;simp;omega
    have hn:Yy (a.getD p Qq2)=false:=by
     unfold Yy;rw [decide_eq_false_iff_not];omega
    rw [hb,if_pos Z,hn];simp
  ·rw [if_neg hp,Qz1 U];simp
theorem Ac2(a:List UInt8):Vx a=some (!(a.all Yy)):=by
 unfold Vx Lib.idxFunc
 congr 1
 have:=Aew (a:=a) (ByteArray.mk a.toArray).size 0 (by simp [Qxc]);rw [QxD] at this;rw [Qz3,decide_eq_true_eq,this];simp
theorem Ab7(s:List UInt8):Lu s=some (SI s):=by
 unfold Lu SI
 by_cases a:s=[]
 ·subst a;rfl
 ·have hl:0<s.length:=Qkc.2 a;rw [if_neg a]
  by_cases b:(32:Int)<(s.length:Int)
  ·rw [if_pos b,show decide (1<=s.length/\s.length<=32/\97<=(s.getD 0 Qq2).toNat/\(s.getD 0 Qq2).toNat<=122)=false by rw [decide_eq_false_iff_not];omega]
   rfl
  ·rw [if_neg b,Ac U,Int.toNat_zero]
   by_cases h2:((s.getD 0 Qq2).toNat:Int)<97
   ·rw [if_pos h2,show decide (1<=s.length/\s.length<=32/\97<=(s.getD 0 Qq2).toNat/\(s.getD 0 Qq2).toNat<=122)=false by rw [decide_eq_false_iff_not];omega]
    rfl
   ·rw [if_neg h2,Ac U]
    by_cases h3:122<((s.getD 0 Qq2).toNat:Int)
    ·rw [if_pos h3,show decide (1<=s.length/\s.length<=32/\97<=(s.getD 0 Qq2).toNat/\(s.getD 0 Qq2).toNat<=122)=false by rw [decide_eq_false_iff_not];omega]
     rfl
    ·rw [if_neg h3,Ac2,show decide (1<=s.length/\s.length<=32/\97<=(s.getD 0 Qq2).toNat/\(s.getD 0 Qq2).toNat<=122)=true by rw [decide_eq_true_eq];omega];simp
theorem Ac3{w:Bool}{l:List (List UInt8)}(hl:TY l<=1000000000000):∀ (d i a:Nat),i+d=l.length->a+TY (l.drop i)<=2000000000000->
  Go.L.run (IT w l) ((a:Int),(i:Int))=some (wr w (a:Int) (l.drop i)):=by
 intro d
 induction d with
 | zero=>
  intro i a hi ha;rw [Qz1 U];refine AP ?_;unfold IT;dsimp only;rw [if_neg U]
  rfl
 | succ d ih=>
  intro i a hi ha;have hil:i<l.length:=by omega
  have hlt:l.length<=1000000000000:=by
   have:∀ m:List (List UInt8),m.length<=TY m:=fun m=>by
    induction m with
    | nil=>exact Qz5 _
    | cons x m ih=>simp only [Qzj,TY];omega
   exact Qz2 (this l) hl
  have hx:=Yc (Ew hil);rw [drop_cons hil] at ha ⊢;unfold wr;unfold TY at ha;generalize hX:l.getD i Qq2=x at *;have c:Bz ((a:Int)+(x.length:Int)):=by unfold Bz;omega
  have e:Bz ((a:Int)+(x.length:Int)+1):=by unfold Bz;omega
  have f:Bz ((i:Int)+1):=by unfold Bz;omega
  have b:0<=(i:Int)/\(i:Int)<(l.length:Int):=by omega
  have hgo:Go.L.run (IT w l) ((a:Int)+(x.length:Int)+1,(i:Int)+1)=some (wr w ((a:Int)+(x.length:Int)+1) (l.drop (i+1))):=by
   have:=ih (i+1) (a+x.length+1) U U
   simpa using this
  have hb:IT w l ((a:Int),(i:Int))=if(SI x||decide (x=[35])||(w&&(decide (x=[42])||decide (x=[42,42]))))=true then some (.inl ((a:Int)+(x.length:Int)+1,(i:Int)+1)) else some (.inr (a:Int)):=by
   unfold IT;simp only [Qq8,hX];rw [if_pos U,Ac b,Ac1 U];simp only [Qq5,Ac b,Ac c,Ac e,Ac f]
   cases hn:SI x <;> by_cases g:x=[35] <;> cases w <;> by_cases h2:x=[42] <;> by_cases h3:x=[42,42] <;> simp_all
  by_cases hc:(SI x||decide (x=[35])||(w&&(decide (x=[42])||decide (x=[42,42]))))=true
  ·rw [if_pos hc] at hb ⊢;rw [Be hb,hgo]
  ·rw [if_neg hc] at hb ⊢;exact AP (m:=some (a:Int)) hb
theorem Aex{s:List UInt8}(hs:s.length<=100000000000)(w:Bool):P7 s w=some (wr w 0 (sl s)):=by
 unfold P7;rw [Ac0 U,Qq5];have a:=Aet s;have:=Ac3 (w:=w) (l:=sl s) U (sl s).length 0 0 U (by simp;omega);rw [QxD] at this;exact this
def pf(s:List UInt8):Int×Int:=if 64<s.length then(3,-1) else if 0<=wr true 0 (sl s) then(1,wr true 0 (sl s)) else(0,0)
theorem Ac4(s:List UInt8):LQ s=some (pf s):=by
 unfold LQ pf
 by_cases h:64<s.length
 ·rw [if_pos U,if_pos h];rfl
 ·rw [if_neg U,if_neg h,Aex U];simp only [Qq5]
  split <;> rfl
theorem Ac5{l:List (List UInt8)}(hl:TY l<=1000000000000):∀ (d i a:Nat),i+d=l.length->a+TY (l.drop i)<=2000000000000->
  Go.L.run (El l) ((a:Int),(i:Int))=some (if 0<=wr true (a:Int) (l.drop i) then(1,wr true (a:Int) (l.drop i)) else(0,0)):=by
 intro d
 induction d with
 | zero=>
  intro i a hi ha;rw [Qz1 U];refine AP ?_;unfold El;dsimp only;rw [if_neg U]
  rfl
 | succ d ih=>
  intro i a hi ha;have hil:i<l.length:=by omega
  have hlt:l.length<=1000000000000:=by
   have:∀ m:List (List UInt8),m.length<=TY m:=fun m=>by
    induction m with
    | nil=>exact Qz5 _
    | cons x m ih=>simp only [Qzj,TY];omega
   exact Qz2 (this l) hl
  have hx:=Yc (Ew hil);rw [drop_cons hil] at ha ⊢;unfold wr;unfold TY at ha;generalize hX:l.getD i Qq2=x at *;have b:Bz ((x.length:Int)+1):=by unfold Bz;omega
  have c:Bz ((a:Int)+((x.length:Int)+1)):=by unfold Bz;omega
  have e:Bz ((i:Int)+1):=by unfold Bz;omega
  have f:0<=(i:Int)/\(i:Int)<(l.length:Int):=by omega
  have hgo:Go.L.run (El l) ((a:Int)+((x.length:Int)+1),(i:Int)+1)=some (if 0<=wr true ((a:Int)+(x.length:Int)+1) (l.drop (i+1)) then(1,wr true ((a:Int)+(x.length:Int)+1) (l.drop (i+1))) else(0,0)):=by
   have:=ih (i+1) (a+x.length+1) U U;rw [show((a:Int)+((x.length:Int)+1))=((a+x.length+1:Nat):Int) by omega,show((a:Int)+(x.length:Int)+1)=((a+x.length+1:Nat):Int) by omega];exact this
  have hb:El l ((a:Int),(i:Int))=if(SI x||decide (x=[35])||(true&&(decide (x=[42])||decide (x=[42,42]))))=true then some (.inl ((a:Int)+((x.length:Int)+1),(i:Int)+1)) else some (.inr (1,(a:Int))):=by
   unfold El;simp only [Qq8,hX];rw [if_pos U,Ac f,Ab7];simp only [Qq5,Ac b,Ac c,Ac e]
   cases hn:SI x <;> by_cases g:x=[35] <;> by_cases h2:x=[42] <;> by_cases h3:x=[42,42] <;> simp_all [DJ]
  by_cases hc:(SI x||decide (x=[35])||(true&&(decide (x=[42])||decide (x=[42,42]))))=true
  ·rw [if_pos hc] at hb ⊢;rw [Be hb,hgo]
  ·rw [if_neg hc] at hb ⊢;rw [if_pos U];exact AP (m:=some (1,(a:Int))) hb
theorem Ro(s:List UInt8):Hu s=some (pf s):=by
 unfold Hu pf
 by_cases h:64<s.length
 ·rw [if_pos U,if_pos h];rfl
 ·rw [if_neg U,if_neg h,VD U,Qq5];have a:=Aet s;have:=Ac5 (l:=sl s) U (sl s).length 0 0 U (by simp;omega);rw [QxD] at this;exact this
end Go.Proofs.YtekmbcbgknmhiaaGreatDoor
end
