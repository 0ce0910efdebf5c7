/- Texts of a claim, merged. -/
import Derived.Test.YtekmbcbgknmhiaaGreatDoorLn3
import Derived.KernelRfl
import Derived.Shelf.SlSortCmp.NoneTotal
open _root_.Go.Proofs.Tryz renaming underlying22→Adb,underlying23→Af7,underlying58→AhD,underlying26→Aj3,underlying109→Aj5,underlying137→Aj7,underlying192→AjI,underlying44→AjJ,underlying46→AjK,underlying135→AjL,underlying24→AjP,underlying28→Ajx
open Option renaming bind->Qq4,map->Qq7
open Int renaming toNat_natCast->Qq8
open Prod renaming fst->Qq6
open List renaming replicate->Qzz,length_map->Qzk,range->Qzv,eq_nil_of_length_eq_zero->Qz9,map_cons->Qzd,mem_map_of_mem->QkB,map_map->Qx0
open Nat renaming le_refl->Qzx
set_option linter.unusedVariables false
set_option linter.unusedSimpArgs false
set_option linter.unusedSectionVars false
noncomputable section
namespace Go
abbrev Akf:=List (AaV×Int×Int)
end Go
namespace Go.Proofs.YtekmbcbgknmhiaaGreatDoor
open Go Go.E Go.RowKit Go.L
set_option maxHeartbeats 1000000
set_option maxRecDepth 10000
open _root_.Go.Proofs.Tryz
def HH(c:Int)(d:AaV)(a:List (AaV×Int×Int))(b:Int):Option ((Akf×Int) ⊕ (Akf)):=
 AN (Go.E.HK 32 (a.length+1)) (Qq7 Sum.inr (some ((a++[(d,c,b)]))))
def CM(a1:AaV)(d:List (AaV×Int×Int))(e:Int):AaV×Int->Option ((AaV×Int) ⊕ ((Akf×Int) ⊕ (Akf))):=fun⟨c,a⟩=>
 if a<(a1.length:Int) then AN (0<=a/\a<=(a1.length:Int)) (Qq4 (Ku (a1.drop a.toNat)) (fun b=>if b.1=([]:AaV) then AN (Bz (a+b.2)) (if c=([]:AaV) then Qq7 Sum.inr (some (Sum.inl (d,(a+b.2)))) else AN (Go.E.HK 32 (d.length+1)) (Qq7 Sum.inr (some (Sum.inl ((d++[(c,e,a)]),(a+b.2)))))) else AN (c.length+b.1.length<=9223372036854775807) (AN (Bz (a+b.2)) (some (Sum.inl ((c++b.1),(a+b.2))))))) else Qq7 Sum.inr ((HH e) c d a)
def MB(a1:AaV)(b:List (AaV×Int×Int))(a:Int)(s:AaV×Int):Option ((Akf×Int) ⊕ (Akf)):=Go.L.run (CM a1 b a) s
def CN(a1:AaV):Akf×Int->Option ((Akf×Int) ⊕ (Akf)):=fun⟨b,a⟩=>
 if a<(a1.length:Int) then(MB a1 b a) (([]:AaV),a) else Qq7 Sum.inr (some b)
def MC(a1:AaV)(s:Akf×Int):Option (Akf):=Go.L.run (CN a1) s
def KS(a0:List (AaV×Int×Int))(a1:AaV):Option (Akf):=
 (MC a1) (a0,0)
theorem Ty{l w:World}{H:PH}(hH:Le H (hp l))(hU:Gq H){O:List BS}{a0:List (AaV×Int×Int)}{a1:AaV}{la0 Da0 ba0:Nat}{ca0:Loop}{va0:Value}{xsa0:List Value}{va1_0:Value}{pa1:Addr}(bb:Ad7 prog (.pair .st Akp) 3 32 la0 Da0 ba0 ca0 131 135)(hL:Bb l (Ha [.obj la0 (.loop ca0),.obj Da0 (.deferred (some [])),.box ba0 [va0] 131,.row va0 135 3 (a0).length xsa0] O) w)(b2:AH (.pair .st Akp) (gz H l w (Ha [.obj la0 (.loop ca0),.obj Da0 (.deferred (some [])),.box ba0 [va0] 131,.row va0 135 3 (a0).length xsa0] O)) a0 xsa0)(be:AJ .byte (gz H l w (Ha [.obj la0 (.loop ca0),.obj Da0 (.deferred (some [])),.box ba0 [va0] 131,.row va0 135 3 (a0).length xsa0] O)) va1_0 a1)(b3:IM (gz H l w (Ha [.obj la0 (.loop ca0),.obj Da0 (.deferred (some [])),.box ba0 [va0] 131,.row va0 135 3 (a0).length xsa0] O)) pa1 [va1_0]){r:Akf}(h:KS a0 a1=some r):
  Ok prog 180 [.func (.yield la0) #[] #[],.pointer (some pa1)] w (fun v w'=>∃ (u0:Value) (y0:List Value),v=.tuple #[]/\Bb l (Ha [.obj la0 (.loop ca0),.obj Da0 (.deferred (some [])),.box ba0 [u0] 131,.row u0 135 3 (r).length y0] O) w'/\Le (fz w (Ha [.obj la0 (.loop ca0),.obj Da0 (.deferred (some [])),.box ba0 [va0] 131,.row va0 135 3 (a0).length xsa0] O)) (fz w' (Ha [.obj la0 (.loop ca0),.obj Da0 (.deferred (some [])),.box ba0 [u0] 131,.row u0 135 3 (r).length y0] O))/\AH (.pair .st Akp) (gz H l w' (Ha [.obj la0 (.loop ca0),.obj Da0 (.deferred (some [])),.box ba0 [u0] 131,.row u0 135 3 (r).length y0] O)) r y0):=by
 refine Ds (n:=53) [(0,.func (.yield la0) #[] #[]),(1,.pointer (some pa1))] func180 Z Z Z Z ?_;have hT:=Le.refl (fz w (Ha [.obj la0 (.loop ca0),.obj Da0 (.deferred (some [])),.box ba0 [va0] 131,.row va0 135 3 (a0).length xsa0] O));refine U3 ?_;have bc:=hL.rG H;refine AI 1 Z<|AB<|Abp<|As<|A4 ?_;obtain⟨a6,h⟩:=Ba h;refine B7 (Akf×Int×Value×(List Value)×Nat) (fun⟨m,a,g,d,n⟩=>[(0,.func (.yield la0) #[] #[]),(1,.pointer (some pa1)),(3,No a)]) (fun⟨m,a,g,d,n⟩ wr=>FX l (Ha [.obj la0 (.loop ca0),.obj Da0 (.deferred (some [])),.box ba0 [g] 131,.row g 135 3 (m).length d] O) wr fun Oz=>IM (gz H l wr Oz) pa1 [va1_0]/\AJ .byte (gz H l wr Oz) va1_0 a1/\AH (.pair .st Akp) (gz H l wr Oz) m d/\Le (fz w (Ha [.obj la0 (.loop ca0),.obj Da0 (.deferred (some [])),.box ba0 [va0] 131,.row va0 135 3 (a0).length xsa0] O)) (fz wr Oz)/\Ia (CN a1) n (m,a)=some r) (fun⟨m,a,g,d,n⟩=>n) (a0,0,va0,xsa0,a6) Z ⟨hL,(b3.mono bc),(be.mono bc),(b2.mono bc),hT,h⟩ ?_;rintro⟨m,a,g,d,nn68⟩ cc ⟨af,aq,ar,a7,hT,h⟩;obtain⟨a6,b1,rfl,h,ag⟩:=AZ h;refine AB ?_;have x:=af.rG H
 refine Bx 1 Z<|Ai (Bl (aq.mono x) (An af))<|Ai (Bm (ar.mono x))<|A8 1 Z<|AQ h ?_ ?_<;>intro b4 h
 ·refine Ax<|As<|A4<|Bx 1 Z<|Ai (AT (fun _=>AdW _ _))<|A9 OV.e Z af fun cj aa b5 ah _=>Af 0 Z b5 Z fun ck b6 ai=>Ad<|B2 (AaV×Akf×Int×Value×(List Value)) (fun⟨p,y,f,k,o⟩=>[(0,.func (.yield la0) #[] #[]),(3,No f),(4,(Aad aa))]) (fun⟨p,y,f,k,o⟩ wr=>FX l (Ha [.box aa [AaM p,No a,No 0] 135,.obj la0 (.loop ca0),.obj Da0 (.deferred (some [])),.box ba0 [k] 131,.row k 135 3 (y).length o] O) wr fun Oz=>AH (.pair .st Akp) (gz H l wr Oz) y o/\Le (fz w (Ha [.obj la0 (.loop ca0),.obj Da0 (.deferred (some [])),.box ba0 [va0] 131,.row va0 135 3 (a0).length xsa0] O)) (fz wr Oz)/\(HH a) p y f=some b1) ?_ ?_
  ·refine A4 ?_;obtain⟨a3,h⟩:=Ba h;have x:=x.trans (Aa (ah.trans ai));have hT:=hT.trans (ah.trans ai);refine B7 (AaV×Int×Nat) (fun⟨j,c,n⟩=>[(0,.func (.yield la0) #[] #[]),(1,.pointer (some pa1)),(3,No c),(4,(Aad aa))]) (fun⟨j,c,n⟩ wr=>FX l (Ha [.box aa [AaM j,No a,No 0] 135,.obj la0 (.loop ca0),.obj Da0 (.deferred (some [])),.box ba0 [g] 131,.row g 135 3 (m).length d] O) wr fun Oz=>IM (gz H l wr Oz) pa1 [va1_0]/\AJ .byte (gz H l wr Oz) va1_0 a1/\AH (.pair .st Akp) (gz H l wr Oz) m d/\Le (fz w (Ha [.obj la0 (.loop ca0),.obj Da0 (.deferred (some [])),.box ba0 [va0] 131,.row va0 135 3 (a0).length xsa0] O)) (fz wr Oz)/\Ia (CM a1 m a) n (j,c)=some b1) (fun⟨j,c,n⟩=>n) (([]:AaV),a,a3) Z ⟨b6,(aq.mono x),(ar.mono x),(a7.mono x),hT,h⟩ ?_;rintro⟨j,c,nn155⟩ b9 ⟨z,q,t,he155_Ra0,hT,h⟩;obtain⟨a3,cd,rfl,h,ad⟩:=AZ h;refine AB ?_;have b:=z.rG H;refine Bx 1 Z<|Ai (Bl (q.mono b) (An z))<|Ai (Bm (t.mono b))<|A8 1 Z ?_
   refine AQ h ?_ ?_<;>intro bf h
   ·refine Ax<|As<|A4<|Aj<|Ai (Bl (q.mono b) (An z))<|Ar 1 Z<|A2 h fun bg h=>YJ (t.mono b) bg fun ce bh=>Aw h fun aj bi h=>AD z (Ur _ _ (An z) (hU.mono  Ah) bh bi) fun cf ca ak u=>A8 5 Z<|AB<|Bx 1 Z<|Ai (Nx Z Z)<|Ad<|AQ h ?_ ?_<;>intro bj h
    ·refine Bx 1 Z<|Ai (Ae Z AjL Z CR.e)<|B5 0 Z Z ak Z Z fun a4 ab ac=>Ad<|Bx 2 Z<|A2 h fun bk h=>Ai (A7 bk)<|A8 1 Z<|AB<|Ad5<|NR (Dd (Dd (Dd (Bn (DT (Bn (M3 (Bn (DT (Bn (HN Jl)))))))))))<|Ai (Ae Z AjL Z HO.e)<|Jm<|NR (Dd (Dd (Dd (Bn (DT (Bn (M3 (Bn (DT (Bn (HN Jl)))))))))))<|Ai (Ag 0 Z ab Z)<|Jm<|NR (Dd (Dd (Dd (Bn (DT (Bn (M3 (Bn (DT (Bn (HN Jl)))))))))))<|Ai (Ss Z Z)<|Jm<|NR (Dd (Dd (Dd (Bn (DT (Bn (M3 (Bn (DT (Bn (HN Jl)))))))))))<|Ar 1 Z<|Jm<|Ad6 (s:=34) Z (fun e=>?_) (fun e=>?_)
     ·have h:=OO (WG e) h;refine P0 e<|NR (Dd (Dd (Dd (Bn (DT (Bn (M3 (Bn (DT (Bn (HN Jl)))))))))))<|Ar 1 Z<|Jm<|P0 e<|NR (Dd (Dd (Dd (Bn (DT (Bn (M3 (Bn (DT (Bn (HN Jl)))))))))))<|Ai (Az 0 Z OV.e ab Z)<|Jm<|P0 e ?_;have al:Bb l (Ha [.box ba0 [g] 131,.row g 135 3 (m).length d,.box aa [AaM j,No a,No c] 135,.obj la0 (.loop ca0),.obj Da0 (.deferred (some []))] O) a4:=ab.C1 [4,4] Z;have au:=B3 [4,4] ab al Z;have a8:Bb l (Ha [.obj la0 (.loop ca0),.obj Da0 (.deferred (some [])),.box ba0 [g] 131,.row g 135 3 (m).length d,.box aa [AaM j,No a,No c] 135] O) a4:=al.C1 [4,4] Z;have av:=B3 [4,4] al a8 Z;refine A2 h fun bl h=>?_;have b:=b.trans (Aa (u.trans (ac.trans (au.trans av))))
      have bm:=@bb l a4 H ((Ha [.box aa [AaM j,No a,No c] 135] O)) g (.agg #[AaM j,No a,No c]) d [AaM j,No a,No c] m (j,a,c) hH a8 (he155_Ra0.mono b) Z ⟨_,_,Z,Z,⟨_,_,Z,Z,Z⟩⟩ bl;refine YL bm ?_;rintro cg ⟨b7,bn,bo,aw,am⟩;refine P0 e<|NR (Dd (Dd (Dd (Bn (DT (Bn (M3 (Bn (DT (Bn (HN Jl)))))))))))<|Ar 1 Z<|Jm<|NR (Dd (Dd (Dd (Bn (DT (Bn (M3 (Bn (DT (Bn (HN Jl)))))))))))<|Ai (AK e Z)<|Jm<|Tp<|G5<|Ax<|As<|B4<|AF<|Mx<|A5 ?_;have h:=Cf.out h ad;refine Mx<|Qp<|Bg ?_;have bp:=bo.AS (i:=4) Z;have h:=Cf.again h ag;have hT:=hT.trans (u.trans (ac.trans (au.trans (av.trans (aw.trans (Ak (i:=4) Z))))));have b:=b.trans (Aa (aw.trans (Ak (i:=4) Z)));have am:=am.mono (Aa (Ak (i:=4) Z))
      refine AM (_,_,_,_,_) Z ⟨bp,(q.mono b),(t.mono b),am,hT,h⟩
     have h:=ON (WH e) h;refine NR (Dd (Dd (Dd (Bn (DT (Bn (M3 (Bn (DT (Bn (HN Jl)))))))))))<|Ao e<|Jm<|NR (Dd (Dd (Dd (Bn (DT (Bn (M3 (Bn (DT (Bn (HN Jl)))))))))))<|Ao e<|Jm<|NR (Dd (Dd (Dd (Bn (DT (Bn (M3 (Bn (DT (Bn (HN Jl)))))))))))<|Ao e<|Jm<|NR (Dd (Dd (Dd (Bn (DT (Bn (M3 (Bn (DT (Bn (HN Jl)))))))))))<|Ao e<|Jm<|NR (Dd (Dd (Dd (Bn (DT (Bn (M3 (Bn (DT (Bn (HN Jl)))))))))))<|Ai (AO e Z)<|Jm<|Tp<|G5<|Ax<|As<|B4<|AF<|Mx<|A5 ?_;have h:=Cf.out h ad;refine Mx<|Qp<|Bg ?_;have bq:=ab.AS (i:=0) Z;have h:=Cf.again h ag;have b:=b.trans (Aa (u.trans (ac.trans (Ak (i:=0) Z))))
     have hT:=hT.trans (u.trans (ac.trans (Ak (i:=0) Z)));refine AM (_,_,_,_,_) Z ⟨bq,(q.mono b),(t.mono b),(he155_Ra0.mono b),hT,h⟩
    refine Ax<|As<|Aj<|Ai (Ae Z AjL Z HO.e)<|Ai (Ag 0 Z ak Z)<|Ar 1 Z<|A2 h fun br h=>Ai (LJ br)<|Ai (Ae Z AjL Z HO.e)<|B5 0 Z Z ak Z Z fun ch bs ax=>Ad<|Au<|Ar 2 Z<|A2 h fun bt h=>Ai (A7 bt)<|Ar 1 Z<|AL<|A3 ?_;have h:=Cf.again h ad;have b:=b.trans (Aa (u.trans ax));have hT:=hT.trans (u.trans ax);refine AM (_,_,_) Z ⟨bs,(q.mono b),(t.mono b),(he155_Ra0.mono b),hT,h⟩
   refine B4<|AF<|A5 ?_;have h:=Cf.out h ad;refine Bg<|AA (_,_,_,_,_) ⟨z,(he155_Ra0.mono b),hT,h⟩
  have hT:=hT.trans (ah.trans ai);rintro⟨p,y,f,k,o⟩ cb ⟨bu,ae,hT,h⟩;refine Bx 1 Z<|Ai (Ae Z AjL Z CR.e)<|B5 0 Z Z bu Z Z fun a5 an ay=>Ad<|Ad5<|NR (Dd (Bn (DT (Bn (HN Jl)))))<|Ar 1 Z<|Jm<|NR (Dd (Bn (DT (Bn (HN Jl)))))<|Ai (Az 0 Z OV.e an Z)<|Jm ?_;have ao:Bb l (Ha [.box ba0 [k] 131,.row k 135 3 (y).length o,.box aa [AaM p,No a,No f] 135,.obj la0 (.loop ca0),.obj Da0 (.deferred (some []))] O) a5:=an.C1 [4,4] Z;have az:=B3 [4,4] an ao Z;have a9:Bb l (Ha [.obj la0 (.loop ca0),.obj Da0 (.deferred (some [])),.box ba0 [k] 131,.row k 135 3 (y).length o,.box aa [AaM p,No a,No f] 135] O) a5:=ao.C1 [4,4] Z;have a2:=B3 [4,4] ao a9 Z;refine A2 h fun bv h=>?_;have ae:=ae.mono (Aa (ay.trans (az.trans a2)))
  have bw:=@bb l a5 H ((Ha [.box aa [AaM p,No a,No f] 135] O)) k (.agg #[AaM p,No a,No f]) o [AaM p,No a,No f] y (p,a,f) hH a9 ae Z ⟨_,_,Z,Z,⟨_,_,Z,Z,Z⟩⟩ bv;refine YL bw ?_;rintro ci ⟨b8,bx,bz,bd,ap⟩;refine Tp<|Ay<|Av<|BJ ?_;have h:=Cf.out h ag;refine Av<|G6 ?_
  cases h
  refine AfR ?_;have b0:=bz.AS (i:=4) Z;have hT:=hT.trans (ay.trans (az.trans (a2.trans (bd.trans (Ak (i:=4) Z)))));have ap:=ap.mono (Aa (Ak (i:=4) Z));exact⟨b8,bx,Z,b0,hT,ap⟩
 refine B4<|AF<|A5 ?_;have h:=Cf.out h ag;refine Bg<|Ad3 ?_
 cases h
 refine LI ⟨g,d,Z,af,hT,(a7.mono x)⟩
end Go.Proofs.YtekmbcbgknmhiaaGreatDoor
end
noncomputable section
namespace Go.Proofs.YtekmbcbgknmhiaaGreatDoor
open Go Go.E Go.RowKit
def Iter(H:PH)(v:Value)(l:List UInt8):Prop:=∃ p u,v=.func (.func 180) #[] #[.pointer (some p)]/\IM H p [u]/\AJ .byte H u l
theorem Iter.mono{H H':PH}{v:Value}{l:List UInt8}(h:Iter H v l)(hs:Le H H'):Iter H' v l:=by
 obtain⟨p,u,a,h2,h3⟩:=h;exact⟨p,u,a,h2.mono hs,h3.mono hs⟩
abbrev rpW:Rp (List UInt8×Int×Int):=.pair .st (.pair (.int .i64) (.int .i64))
def Pc(l:List UInt8):Option (List (List UInt8×Int×Int)):=KS [] l
section
variable(w:World)(H:PH)(hH:Le H (hp w)) include hH
theorem Zf{a0:List UInt8}{b:Value}(e:AJ .byte H b a0):
  Ok Tryz.prog 129 [b] w (fun v w'=>Ext w w'/\Iter (un H (nw w w')) v a0):=by
 refine Ds (n:=4) [(0,b)] Tryz.func129 Z Z Z Z ?_;have hL:=Bb.start w;refine Aj<|Q1 (t:=23) Z e.one hL fun c a d l _=>Ar 1 Z<|Ad<|Aj<|Ar 2 Z<|Ad<|Ay<|Uy Z Z ?_;have f:IM (hp c) ⟨a,0,none⟩ [b]:=AG (i:=0) d Z;have hn:a>=w.heap.size:=d.own _ (.head _) a Z;refine⟨d.ext,⟨a,0,none⟩,b,Z,⟨Z,fun j u hj=>?_⟩,e.mono (M1 hH)⟩;have g:=f.2 j u hj
 have h2:un H (nw w c) a=hp c a:=by
  have h3:nw w c a=hp c a:=by unfold nw;rw [if_pos hn];rfl
  cases h:hp c a with
  | none=>
   have:=d.at (i:=0) Z;have k:c.heap[a]? = none:=h;rw [show c.heap[a]? = _ from this] at k
   cases k
  | some o=>exact Iv a o (h3.trans h)
 simp only [Addr.add_lit,IE] at g ⊢;rw [h2];exact g
end
set_option maxRecDepth 10000 in
section
variable(w:World)(H:PH)(hH:Le H (hp w)) include hH
theorem XR(hU:Gq H){p:Addr}{u:Value}{l0:List UInt8}(hpt:IM H p [u])(hv:AJ .byte H u l0){r:List (List UInt8×Int×Int)}(h:KS [] l0=some r):
  Ok Tryz.prog 179 [.slice none 0 0,.func (.func 180) #[] #[.pointer (some p)]] w (fun v w'=>Ext w w'/\Ck 135 rpW H w w' v r):=by
 refine Acj (k:=13) [(0,.slice none 0 0),(1,.func (.func 180) #[] #[.pointer (some p)])] Tryz.func179 Z Z Z Z ?_;have hL:=Bb.start w;refine Aj<|Q1 (t:=131) Z Z hL fun w1 d af ax _=>Ar 1 Z<|Ad<|AB<|Aj<|Ar 1 Z<|Ad<|A4<|Aga (cap:=[.pointer (some p)]) Z ⟨Tryz.f180,_,Tryz.func180,Z,Z⟩ af ?_;intro a fr fn l D w2 rec hrec ag ay
 have hY:Ad7 Tryz.prog rpW 3 32 l D d rec 131 135:=by
  subst hrec;refine AdB (p:=7) (k:=13) Z Z Z ⟨fr.size,Z,fr.get⟩ Z ?_;intro x0 x1 G P v y xs c m x hG hM he hy hx hc;obtain⟨xa,xb,xc⟩:=x;obtain⟨_,_,rfl,rfl,_,_,rfl,rfl,rfl⟩:=hx;refine WJ Z AfZ<|A9 OV.e Z hM fun w3 bx ah f _=>Tk 0 Z Z hy OV.e ah Z Z (Bk Z (Bk Z (Bk Z Kq))) fun w4 ai g=>AL<|AdA (i:=1) Z ai Z fun w5 b j=>Ad8<|WJ Z (Bn Ad9)<|Ai (Qy 3 Z b Z Z)<|Ai (Az 0 Z OV.e b Z)<|B9 [(xa,xb,xc)] (r:=rpW) (fun _=>AdZ _ _ _ _) (hlen:=(show 1<=9223372036854775807 by decide)) (hH:=hG) b (.c3 ⟨_,_,Z,Z,_,_,Z,Z,Z⟩ .nil) fun v6 w6 a6 aj n ak=>Bt (r:=rpW) 4 m [(xa,xb,xc)] Z Tryz.underlying131 (hH:=hG) aj Z (((he.mono (Aa (hH:=hG) f)).mono (Aa (hH:=hG) g)).mono (Aa (hH:=hG) j) |>.mono (Aa (hH:=hG) n)) ak hc fun v7 w7 al o am an=>B5 3 Z (row_one (o.at (i:=4) Z)) o Z Z fun w8 ao q=>AL<|A3<|XG (i:=1) ao Z ?_;intro w9 ap s;refine⟨Z,v7,al,ap.AS (i:=0) Z,((((((f.trans g).trans j).trans n).trans am).trans q).trans s).trans (Ak (i:=0) Z),?_⟩
  exact((an.mono (Aa (hH:=hG) q)).mono (Aa (hH:=hG) s)).mono (Aa (hH:=hG) (Ak (i:=0) Z))
 obtain⟨aq,a3,a7⟩:=DI rpW H 135 ag
 have ar:(yR l D d rec 131 135 3 (.slice none 0 0) ([]:List (List UInt8×Int×Int)).length []++[]).Perm (.row (.slice none 0 0) 135 rpW.sz ([]:List (List UInt8×Int×Int)).length []::[.obj l (.loop rec),.obj D (.deferred (some [])),.box d [.slice none 0 0] 131]):=
  List.perm_append_comm (l₁:=([.obj l (.loop rec),.obj D (.deferred (some [])),.box d [.slice none 0 0] 131]:List BS)) (l₂:=([.row (.slice none 0 0) 135 3 0 []]:List BS))
 have au:=aq.perm ar;have hc:=Ty hH hU (O:=[]) hY au .nil (hv.mono  Ah) (hpt.mono  Ah) h;refine hc.2.mono fun e w5 ⟨v5,av,hR⟩=>⟨⟨v5,av⟩,?_⟩;obtain⟨u0,y0,_,aw,a5,ab⟩:=hR;refine⟨_,aw,fun w6 z ac=>?_⟩;refine A3<|As<|Aj<|Ai (Qy 2 Z z Z Z)<|Ar 1 Z<|Ad<|Ay<|Agb (i:=1) (l:=[.tmp 4]) Z Z z Z ?_;intro w7 aa ad;exact⟨aa.ext,aa.Iq hH (i:=3) Z ((ab.mono (Aa ac)).mono (Aa ad))⟩
theorem V5(hU:Gq H){a:Value}{a0:List UInt8}(b:Iter H a a0){r:List (List UInt8×Int×Int)}(h:Pc a0=some r):
  Ok Tryz.prog 128 [a] w (fun v w'=>Ext w w'/\∃ c,v=c/\Ck 135 rpW H w w' c r):=by
 obtain⟨p,u,rfl,h2,h3⟩:=b;refine Ds (n:=5) [(0,.func (.func 180) #[] #[.pointer (some p)])] Tryz.func128 Z Z Z Z<|Aj<|Ar 1 Z<|Ad<|Aj<|Ar 1 Z<|ES (XR w H hH hU h2 h3 h) ?_;intro v w' ⟨hx,ho⟩;refine Ar 1 Z<|Ad<|Ay<|Uy Z Z ⟨hx,_,Z,ho⟩
end
end Go.Proofs.YtekmbcbgknmhiaaGreatDoor
end
noncomputable section
namespace Go.Proofs.YtekmbcbgknmhiaaGreatDoor
open Go Go.E Go.RowKit Go.L
set_option maxHeartbeats 1000000
set_option maxRecDepth 10000
open _root_.Go.Proofs.Tryz
def Ji(a0:AaV):Option (Akf×(Int×Int)):=
 if 2048<(a0.length:Int) then Qq4 (DW (3:Int) (-1:Int)) (fun a=>some ([],(a.1,a.2))) else Qq4 (Pc a0) (fun b=>some (b,(0,0)))
section
variable(w:World)(H:PH)(hH:Le H (hp w)) include hH
theorem V6(hU:Gq H){a0:AaV}{b:Value}(e:AJ .byte H b a0){r:Akf×(Int×Int)}(h:Ji a0=some r):
  Qqv 79 [b] w (fun v w'=>∃ p,v=.tuple #[p,.agg #[No r.2.1,No r.2.2]]/\Ck 135 (.pair .st Akp) H w w' p (r.1)):=by
 refine A1 12 [(0,b)] func79 Z fun hL=>Bx 1 Z<|A9 AE.e Z hL fun w1 b1 a ab _=>Ad<|AB<|Bx 1 Z<|Ai (Bm e)<|A8 1 Z<|AQ h ?_ ?_<;>intro q h
 ·refine Aj<|Aw h fun x4 s h=>AD a (D5 _ _ (An a) s) fun w5 ag t ac=>Ar 1 Z<|Af 0 Z t Z fun w6 m ad=>Ad<|Ay<|Aq ?_
  cases h
  refine Bo (.tmp Z) (.cell Z Ajx Z AE.e (AG (i:=0) m Z)) ⟨m.ext,_,Z,Ck.nil⟩
 refine Ax<|As<|Bx 1 Z<|Bf a (Zf _ _ (An a) (e.mono  Ah)) ?_;intro u8 w8 u x f ae;have y:=u.mono (Dt a x);refine Aw h fun x9 z h=>Bf f (V5 _ _ (An f) (hU.mono  Ah) y z) ?_;rintro aa ah ⟨_,rfl,g⟩ o j k;obtain⟨af,j,k,c⟩:=g.take hH f o;refine Ai (AT (fun _=>BM _))<|Ar 1 Z<|Af 1 Z j Z fun ai d l=>Ad<|Ay ?_
 cases h
 refine Bo (.tmp Z) (.cell Z Ajx Z AE.e (AG (i:=1) d Z)) ?_;have c:=c.mono (Aa l);exact⟨d.ext,_,Z,(d.Iq hH (i:=0) Z c)⟩
def Kv(a0:AaV):Option Bool:=
 AN (a0.length<=9223372036854775807) (Qq4 (Pc a0) (fun a=>if(a.length:Int)=1 then AN (0<=(0:Int)/\(0:Int)<(a.length:Int)) (some (decide ((a.getD ((0:Int).toNat) Qq2).1=a0))) else some false))
theorem Us(hU:Gq H){a0:AaV}{r:Bool}(h:Kv a0=some r):
  Qqv 157 [AaM a0] w (fun v w'=>v=.bool r):=by
 refine A1 19 [(0,(AaM a0))] func157 Z fun hL=>AI 1 Z<|Bx 1 Z<|A2 h fun j h=>Ad0 (H:=H) hL j fun v1 w1 z c t k=>Bf c (Zf _ _ (An c) k) ?_;intro u3 w3 l m d u;have o:=l.mono (Dt c m);refine Aw h fun x4 p h=>Bf d (V5 _ _ (An d) (hU.mono  Ah) o p) ?_;rintro x w5 ⟨_,rfl,f⟩ q e y;have b:=f.Du hH d q;refine A8 1 Z<|Bx 1 Z<|Ai (Bm b)<|Ar 2 Z<|CI 11 h ?_ ?_<;>intro a h
 ·refine Ab a<|Ai (Am Z)<|Ab a<|A2 h fun g h=>Bi b ((0:Int).toNat) (GX g) (AX g) ?_;rintro p8 _ ⟨_,_,rfl,rfl,⟨_,_,rfl,rfl,rfl⟩⟩ s;refine Ab a<|Ai (Ae Z AjL Z HO.e) ?_;have i:=s.add 0;refine Ab a<|Ai (Bl i (An e))<|Ab a<|Ai (Am Z)<|Ab a<|Ai (Nx Z Z)<|Ai (AK a Z)<|A8 1 Z<|Ay ?_
  cases h
  refine Al Z ⟨e.ext,Z⟩
 iterate 6 refine Ao a ?_
 refine Ai (AO a Z)<|A8 1 Z<|Ay ?_
 cases h
 refine Al Z ⟨e.ext,Z⟩
def H9(a0:AaV):Option ((Int×Int)):=
 if 64<(a0.length:Int) then Qq4 (DW (3:Int) (-1:Int)) (fun b=>some ((b.1,b.2))) else Qq4 (Kv a0) (fun c=>if !c then Qq4 (DW (6:Int) (-1:Int)) (fun a=>some ((a.1,a.2))) else some ((0,0)))
theorem Kc(hU:Gq H){a0:AaV}{r:(Int×Int)}(h:H9 a0=some r):
  Qqv 102 [AaM a0] w (fun v w'=>v=.agg #[No r.1,No r.2]):=by
 refine A1 12 [(0,(AaM a0))] func102 Z fun hL=>Aj<|A9 AE.e Z hL fun w1 b1 a t _=>Ad<|AB<|Bx 1 Z<|Ai (IP Z)<|A8 1 Z<|AQ h ?_ ?_<;>intro k h
 ·refine Aj<|Aw h fun x4 l h=>AD a (D5 _ _ (An a) l) fun w5 aa m u=>Af 0 Z m Z fun w6 e x=>Ad<|Ay<|Aq ?_
  cases h
  refine Dz (.cell Z Ajx Z AE.e (AG (i:=0) e Z)) ⟨e.ext,Z⟩
 refine Ax<|As<|AB<|Bx 1 Z<|Aw h fun x8 o h=>AD a (Us _ _ (An a) (hU.mono  Ah) o) fun w9 ab b y=>A8 1 Z<|B8 h ?_ ?_<;>intro f h
 ·refine Aj<|Aw h fun ac g h=>AD b (D5 _ _ (An b) g) fun ad z j p=>Af 0 Z j Z fun ae c q=>Ad<|Ay<|Aq ?_
  cases h
  refine Dz (.cell Z Ajx Z AE.e (AG (i:=0) c Z)) ⟨c.ext,Z⟩
 refine Ax<|As<|Aj<|Ai (AT (fun _=>BM _))<|Af 0 Z b Z fun af d s=>Ad<|Ay ?_
 cases h
 refine Dz (.cell Z Ajx Z AE.e (AG (i:=0) d Z)) ⟨d.ext,Z⟩
end
end Go.Proofs.YtekmbcbgknmhiaaGreatDoor
end
noncomputable section
namespace Go.Proofs.YtekmbcbgknmhiaaGreatDoor
open Go Go.E Go.RowKit Go.Shelf Go.Maps Go.Sort Go.WideElems Go.MapKept
abbrev rpH:Rp (Int×Int):=.pair (.int .i64) (.int .i64)
abbrev AiY(H:PH)(v:Value)(l:List (List UInt8×List (Int×Int))):Prop:=Wp encS (.vec rpH) H v l
def Zg(H:PH)(v:Value)(l:List (List UInt8×List (Int×Int))):Prop:=∃ b u,v=.func (.func 184) #[] #[.pointer (some ⟨b,0,none⟩)]/\H b=some (.cells #[u] 130 (0,0))/\AiY H u l
theorem Zg.mono{H H':PH}{v:Value}{l:List (List UInt8×List (Int×Int))}(h:Zg H v l)(hs:Le H H'):Zg H' v l:=by
 obtain⟨b,u,a,h2,h3⟩:=h;exact⟨b,u,a,hs _ _ h2,h3.mono hs⟩
section
variable(w:World)(H:PH)(hH:Le H (hp w)) include hH
theorem Agy{v:Value}{l:List (List UInt8×List (Int×Int))}(hm:AiY H v l):Ok Tryz.prog 131 [v] w (fun v' w'=>Ext w w'/\Zg (un H (nw w w')) v' l):=by
 obtain⟨b,vs,rfl,h⟩:=id hm;have hc:CallsIn Fence.wide 5 Tryz.prog 131 #[.map (some b)] w fun e w'=>e=.returned (.func (.func 184) #[] #[.pointer (some ⟨w.heap.size,0,none⟩)])/\w'=w.alloc (.cells #[.map (some b)] 130):=AnyZ.keys_in Tryz.Ahq Fence.wide 5 trivial Z (some b) w;refine⟨⟨Tryz.f131,_,Tryz.func131,Z,Z⟩,(callsIn_wide.1 hc).mono fun e w' he=>?_⟩;obtain⟨rfl,rfl⟩:=he;refine⟨_,Z,Dy w _,w.heap.size,.map (some b),Z,?_,hm.mono (M1 hH)⟩;refine Iv _ _ ?_;unfold nw;rw [if_pos (Qzx _)];exact World.alloc_heap_new w _
end
theorem Rh{κ:Type}{enc:κ->Value}:∀ (l:List κ) (vs:List Value) (i:Nat),l.length=vs.length->(mE enc i l vs).map (·.born)=List.range' i l.length
 | [],[],_,_=>rfl
 | a::l,u::vs,i,h=>by
  simp only [mE,Qzd,List.length_cons,List.range'_succ];rw [Rh l vs (i+1) (by simpa using h)]
theorem XS{κ:Type}{enc:κ->Value}:∀ (l:List κ) (vs:List Value) (i:Nat),l.length=vs.length->(mE enc i l vs).map (·.key)=l.map enc
 | [],[],_,_=>rfl
 | a::l,u::vs,i,h=>by
  simp only [mE,Qzd];rw [XS l vs (i+1) (by simpa using h)]
def Aen:Value->Option (DataW Unit×List MemPlace):=fun _=>some (.nil,[])
theorem Zh{P:Program}{k:TypeId}(hk:P.underlying k=some .string){s:List UInt8}(h:s.length<=maxLen):keyOf P k (encS s)=some (.string s):=by
 have:(ByteArray.mk s.toArray).size<=maxLen:=h;simp [keyOf,hk,mapKey,encS,this]
theorem Ah6{P:Program}{k:TypeId}(hk:P.underlying k=some .string):∀ (l:List (List UInt8)) (vs:List Value) (i:Nat),l.length=vs.length->(∀ x∈l,x.length<=maxLen)->
  (mE encS i l vs).map (rg P k Aen)=l.map fun s=>(Lit.string s,(DataW.nil:DataW Unit))
 | [],[],_,_,_=>rfl
 | a::l,u::vs,i,h,hb=>by
  simp only [mE,Qzd];rw [Ah6 hk l vs (i+1) (by simpa using h) (fun x hx=>hb x (.tail _ hx))]
  congr 1
  simp [WideElems.rg,WideElems.rd,Zh hk (hb a (.head _)),Aen]
def SF{β:Type}(l:List (List UInt8×β)):Prop:=(l.map Qq6).Nodup/\(∀ x∈l.map Qq6,x.length<=maxLen)/\l.length * 16<=140737488355328
noncomputable instance {β:Type} (l:List (List UInt8×β)):Decidable (SF l):=Classical.propDecidable _
def MD{β:Type}(l:List (List UInt8×β)):Option (List (List UInt8)):=Go.L.AN (SF l) (some ((l.map Qq6).mergeSort leB))
theorem AiZ(m:Nat):AnyZ.SortsIn Tryz.prog Tryz.TP Fence.wide m:=
 ⟨fun blk off cap ss W hH hblk hsz=>callsIn_wide.2 (Any.slices_Sort_string Tryz.Aho blk off cap ss W hH hblk hsz),
  fun p cap W=>callsIn_wide.2 (Any.slices_Sort_string_none Tryz.Aho p cap W)⟩
theorem Xa(G:PH):∀ l:List (List UInt8),AH Rp.st G l (l.map Go.Proofs.encStr)
 | []=>.nil
 | _::l=>.cons (c:=[_]) Z (Xa G l)
section
variable(w:World)(H:PH)(hH:Le H (hp w)) include hH
theorem Acv{v:Value}{l:List (List UInt8×List (Int×Int))}(hi:Zg H v l){r:List (List UInt8)}(h:MD l=some r):
  Ok Tryz.prog 130 [v] w (fun v' w'=>Ext w w'/\∃ f,v'=f/\Ck 9 .st H w w' f r):=by
 obtain⟨⟨hnd,hlen,hby⟩,h⟩:=Go.L.GG h;obtain rfl:=Option.some.inj h;obtain⟨bx,u,rfl,hbx,b,vs,rfl,hb,hl,_⟩:=hi;have hbx':w.heap[bx]? = _:=hH _ _ hbx;have hb':w.heap[b]? = _:=hH _ _ hb;have hlk:(l.map Qq6).length=vs.length:=by rw [Qzk];exact hl
 have hml:(mE encS 0 (l.map Qq6) vs).length=l.length:=by rw [Ts _ _ _ hlk,Qzk]
 have hrg:=Ah6 (P:=Tryz.prog) Tryz.underlying9 (l.map Qq6) vs 0 hlk hlen
 have hown:w.ownsMap Tryz.prog 9 Aen b l.length (.map (((mE encS 0 (l.map Qq6) vs).map (rg Tryz.prog 9 Aen)).foldr DataW.insert [])):=by
  refine⟨_,_,hb',⟨?_,⟨?_,?_,?_⟩,?_⟩,?_,Z⟩
  ·rw [List.size_toArray,hml];unfold maxLen;omega
  ·intro x hx;have c:x.born∈(mE encS 0 (l.map Qq6) vs).map (·.born):=QkB (by simpa using hx);rw [Rh _ _ _ hlk,List.mem_range'_1,Qzk] at c;omega
  ·rw [List.toList_toArray,Rh _ _ _ hlk];exact List.nodup_range'
  ·rw [List.toList_toArray,XS _ _ _ hlk];exact List.pairwise_map.2 (hnd.imp fun {a b} hab he=>hab (by simpa [encS] using he))
  ·intro x hx;have hx':x∈mE encS 0 (l.map Qq6) vs:=by simpa using hx
   have c:x.key∈(mE encS 0 (l.map Qq6) vs).map (·.key):=QkB hx';rw [XS _ _ _ hlk] at c;obtain⟨s,hs,he⟩:=List.mem_map.1 c;exact⟨(.string s,.nil),by simp [WideElems.rd,<- he,Zh Tryz.underlying9 (hlen s hs),Aen]⟩
  ·rw [List.size_toArray,hml];exact Qzx _
 rw [hrg] at hown
 have hq:∀ ks:List (List UInt8),(strKeys (.map ((ks.map fun s=>(Lit.string s,(DataW.nil:DataW Unit))).foldr DataW.insert []))).Perm ks:=fun ks=>by
  have c:=(WideShapes.sorted_perm (ks.map fun s=>(Lit.string s,(DataW.nil:DataW Unit)))).map (fun p=>strOf p.1);rw [Qx0] at c;have h2:((fun p:Lit×DataW Unit=>strOf p.1)∘fun s=>(Lit.string s,(DataW.nil:DataW Unit)))=id:=by funext s;rfl
  rw [h2,List.map_id] at c;exact c
 have hperm:=hq (l.map Qq6)
 have hsz:Go.Maps.size (.map (((l.map Qq6).map fun s=>(Lit.string s,(DataW.nil:DataW Unit))).foldr DataW.insert []))=l.length:=by
  have c:=(WideShapes.sorted_perm ((l.map Qq6).map fun s=>(Lit.string s,(DataW.nil:DataW Unit)))).length_eq;rw [Qzk,Qzk] at c;exact c
 have hseq:SeqGives Fence.wide 2 Tryz.prog 184 #[.pointer (some ⟨bx,0,none⟩)] Go.Proofs.encStr (fun ss=>ss.Perm (strKeys (.map (((l.map Qq6).map fun s=>(Lit.string s,(DataW.nil:DataW Unit))).foldr DataW.insert [])))) (Go.Maps.size (.map (((l.map Qq6).map fun s=>(Lit.string s,(DataW.nil:DataW Unit))).foldr DataW.insert []))) w:=
  AnyZ.keys_gives (ρ:=Tryz.WA) {Tryz.Ahq with} Fence.wide _ trivial Z U bx b l.length _ _ (lt_of_heap hbx') (by simp [World.cell?,hbx']) hown
 have cS:=AnyZ.sorted_in Tryz.AfD Fence.wide 5 trivial trivial trivial trivial Z U (AiZ _) (enters_of Tryz.func183 Qqb Z) 184 #[.pointer (some ⟨bx,0,none⟩)] trivial (enters_of Tryz.func184 Qqb Z) _ _ (by rw [hsz];unfold maxLen;omega) (by rw [hsz];exact hby) _ hseq
 change CallsIn _ _ Tryz.prog 130 _ _ _ at cS
 refine⟨⟨Tryz.f130,_,Tryz.func130,Z,Z⟩,(callsIn_wide.1 cS).mono fun e w' he=>?_⟩;obtain⟨v',ss,rfl,hS,hrow,_,hbel⟩:=he;refine⟨_,Z,Ext.off hbel,v',Z,_,?_,Xa _ _⟩;have d:ss.mergeSort leB=(l.map Qq6).mergeSort leB:=mergeSort_of_perm (hS.trans hperm);have g:ss.length=((l.map Qq6).mergeSort leB).length:=by rw [<- d];simp
 rw [g] at hrow;rw [<- d];rw [<- d] at hrow;exact hrow
end
end Go.Proofs.YtekmbcbgknmhiaaGreatDoor
end
noncomputable section
namespace Go
abbrev Akl:=(Int×Akc)×(Int×Int)
end Go
namespace Go.Proofs.YtekmbcbgknmhiaaGreatDoor
open Go Go.E Go.RowKit Go.L
set_option maxHeartbeats 1000000
set_option maxRecDepth 10000
open _root_.Go.Proofs.Tryz
def AY(a0 a1:Int):Option Int:=
 Qq4 (GQ a0) (fun a=>AN (Bz (a1+a)) (some ((a1+a))))
theorem Ep{d w:World}{H:PH}(_hH:Le H (hp d))(O:List BS)(a0 a1:Int){ba1:Nat}(hL:Bb d (Ha [.box ba1 [No a1] 3] O) w){r:Int}(h:AY a0 a1=some r):
  Ok prog 133 [No a0,Aad ba1] w (fun v w'=>v=.tuple #[]/\Bb d (Ha [.box ba1 [No r] 3] O) w'/\Le (fz w (Ha [.box ba1 [No a1] 3] O)) (fz w' (Ha [.box ba1 [No r] 3] O))):=by
 refine Ds (n:=7) [(0,No a0),(1,(Aad ba1))] func133 Z Z Z Z ?_;have hT:=Le.refl (fz w (Ha [.box ba1 [No a1] 3] O));refine Pw (Qqz 0 4 (.tail 4)) mixed Qqb (fun o b=>?_);have a:=hL.call b;have e:=AR hL b;refine CB Z (Ag 0 Z a Z) Z<|D4 1 Z<|Aw h fun p i h=>JN Z Z Z (fun s m=>SA _ _ (Le.refl _) i)<|A2 h fun j h=>CB Z (A7 j) Z<|BT (fun t c=>?_);have k:=a.call c;have f:=AR a c;refine B5 0 Z Z k Z Z fun u l g=>AL ?_
 cases h
 refine LI ?_;have hT:=hT.trans (e.trans (f.trans g));exact⟨Z,l,hT⟩
def F3(a b:Int):Option ((Int×Int) ⊕ (Int)):=
 AN (Bz (a+1)) (some (Sum.inl (b,(a+1))))
def BQ(a0:Int×Akc)(b:Int):Int×Int×Int×Int->Option ((Int×Int×Int×Int) ⊕ ((Int×Int) ⊕ (Int))):=fun⟨c,e,d,a⟩=>
 if a<(((a0.2.getD b.toNat Qq2).2).length:Int) then AN (0<=a/\a<(((a0.2.getD b.toNat Qq2).2).length:Int)) (if(((a0.2.getD b.toNat Qq2).2).getD a.toNat Qq2).1=c then Qq4 (AY (1:Int) d) (fun f=>AN (Bz ((((a0.2.getD b.toNat Qq2).2).getD a.toNat Qq2).2 - e)) (Qq4 (AY ((((a0.2.getD b.toNat Qq2).2).getD a.toNat Qq2).2 - e) f) (fun g=>AN (Bz (a+1)) (some (Sum.inl ((((a0.2.getD b.toNat Qq2).2).getD a.toNat Qq2).1,(((a0.2.getD b.toNat Qq2).2).getD a.toNat Qq2).2,g,(a+1))))))) else AN (Bz (1+(((a0.2.getD b.toNat Qq2).2).getD a.toNat Qq2).1)) (AN (Bz ((1+(((a0.2.getD b.toNat Qq2).2).getD a.toNat Qq2).1) - c)) (Qq4 (AY ((1+(((a0.2.getD b.toNat Qq2).2).getD a.toNat Qq2).1) - c) d) (fun h=>AN (Bz ((((a0.2.getD b.toNat Qq2).2).getD a.toNat Qq2).2+1)) (Qq4 (AY ((((a0.2.getD b.toNat Qq2).2).getD a.toNat Qq2).2+1) h) (fun i=>AN (Bz (a+1)) (some (Sum.inl ((((a0.2.getD b.toNat Qq2).2).getD a.toNat Qq2).1,(((a0.2.getD b.toNat Qq2).2).getD a.toNat Qq2).2,i,(a+1)))))))))) else Qq7 Sum.inr ((F3 b) d)
def Hw(a0:Int×Akc)(a:Int)(s:Int×Int×Int×Int):Option ((Int×Int) ⊕ (Int)):=Go.L.run (BQ a0 a) s
def F4(a0:Int×Akc)(a b:Int):Option ((Int×Int) ⊕ (Int)):=
 Qq4 (AY (((a0.2.getD a.toNat Qq2).2).length:Int) b) (fun c=>(Hw a0 a) (0,(-1),c,0))
def C3(a0:Int×Akc)(b:Int):Int×Int->Option ((Int×Int) ⊕ ((Int×Int) ⊕ (Int))):=fun⟨c,a⟩=>
 if a<(((a0.2.getD b.toNat Qq2).1).length:Int) then AN (0<=a/\a<(((a0.2.getD b.toNat Qq2).1).length:Int)) (AN (Bz (((((a0.2.getD b.toNat Qq2).1).getD a.toNat Qq2).toNat:Int)+1)) (Qq4 (AY (((((a0.2.getD b.toNat Qq2).1).getD a.toNat Qq2).toNat:Int)+1) c) (fun d=>AN (Bz (a+1)) (some (Sum.inl (d,(a+1))))))) else Qq7 Sum.inr ((F4 a0 b) c)
def Hx(a0:Int×Akc)(a:Int)(s:Int×Int):Option ((Int×Int) ⊕ (Int)):=Go.L.run (C3 a0 a) s
def C4(a0:Int×Akc):Int×Int->Option ((Int×Int) ⊕ (Int)):=fun⟨b,a⟩=>
 if a<(a0.2.length:Int) then AN (0<=a/\a<(a0.2.length:Int)) (Qq4 (AY (((a0.2.getD a.toNat Qq2).1).length:Int) b) (fun c=>AN (((a0.2.getD a.toNat Qq2).1).length<=9223372036854775807) ((Hx a0 a) (c,0)))) else Qq7 Sum.inr (some b)
def Hy(a0:Int×Akc)(s:Int×Int):Option Int:=Go.L.run (C4 a0) s
def FR(a0:Int×Akc)(a1_c0:Int):Option Int:=
 AN (Bz (a0.1+1)) (Qq4 (AY (a0.1+1) a1_c0) (fun a=>AN (Bz ((a0.2.length:Int)+1)) (Qq4 (AY ((a0.2.length:Int)+1) a) (fun b=>(Hy a0) (b,0)))))
theorem PC{k w:World}{H:PH}(hH:Le H (hp k)){O:List BS}{a0:Int×Akc}{a1_c0:Int}{va0_1:Value}{ba1_c0:Nat}(hL:Bb k (Ha [.box ba1_c0 [No a1_c0] 3] O) w)(y:AJ (.pair .st (.vec Akp)) (gz H k w (Ha [.box ba1_c0 [No a1_c0] 3] O)) va0_1 (a0.2)){r:Int}(h:FR a0 a1_c0=some r):
  Ok prog 132 [.agg #[No a0.1,va0_1],.func (.func 133) #[] #[Aad ba1_c0]] w (fun v w'=>v=.tuple #[]/\Bb k (Ha [.box ba1_c0 [No r] 3] O) w'/\Le (fz w (Ha [.box ba1_c0 [No a1_c0] 3] O)) (fz w' (Ha [.box ba1_c0 [No r] 3] O))):=by
 refine Ds (n:=91) [(0,.agg #[No a0.1,va0_1]),(1,.func (.func 133) #[] #[Aad ba1_c0])] func132 Z Z Z Z ?_;have hT:=Le.refl (fz w (Ha [.box ba1_c0 [No a1_c0] 3] O));refine Aj<|CD (t:=46) Z Z hL fun w1 q b2 b3 _=>Ad<|Bx 1 Z<|Ai (Ae Z AjK Z CR.e)<|Ai (Ag 0 Z b2 Z)<|A2 h fun dm h=>Ai (A7 dm) ?_;have db:Bb k (Ha [.box ba1_c0 [No a1_c0] 3,.box q [No a0.1,va0_1] 46] O) w1:=b2.C1 [1] Z;have b4:=B3 [1] b2 db Z;refine Aw h fun x4 dn h=>Fl Z Z (Ep hH (Ha [.box q [No a0.1,va0_1] 46] O) (a0.1+1) a1_c0 db dn) ?_;rintro _ w5 ⟨rfl,dc,b5⟩;refine Ad<|Bx 1 Z<|Ai (Ae Z AjK Z Aai.e)<|Ai (Ag 1 Z dc Z) ?_;have y:=y.mono (Aa (b3.trans (b4.trans b5)));refine Ai (Bm y)<|A2 h fun dp h=>Ai (A7 dp)<|Aw h fun x7 dq h=>Fl Z Z (Ep hH (Ha [.box q [No a0.1,va0_1] 46] O) (((a0.2.length:Int)+1)) x4 dc dq) ?_;rintro _ w8 ⟨rfl,dd,b6⟩
 refine Ad<|Aj<|Ai (Ae Z AjK Z Aai.e)<|Ai (Ag 1 Z dd Z) ?_;have y:=y.mono (Aa b6);refine Ai (Bm y)<|A8 1 Z<|A4 ?_;obtain⟨be,h⟩:=Ba h;have hT:=hT.trans (b3.trans (b4.trans (b5.trans b6)));refine B7 (Int×Int×Nat) (fun⟨aa,a,n⟩=>[(1,.func (.func 133) #[] #[Aad ba1_c0]),(23,va0_1),(24,No (a0.2.length:Int)),(25,No a)]) (fun⟨aa,a,n⟩ wr=>FX k (Ha [.box ba1_c0 [No aa] 3,.box q [No a0.1,va0_1] 46] O) wr fun Oz=>AJ (.pair .st (.vec Akp)) (gz H k wr Oz) va0_1 (a0.2)/\Le (fz w (Ha [.box ba1_c0 [No a1_c0] 3] O)) (fz wr Oz)/\Ia (C4 a0) n (aa,a)=some r) (fun⟨aa,a,n⟩=>n) (x7,0,be) Z ⟨dd,y,hT,h⟩ ?_;rintro⟨aa,a,nn119⟩ dr ⟨a6,z,hT,h⟩;obtain⟨be,a7,rfl,h,bg⟩:=AZ h;refine AI 1 Z<|AB<|AQ h ?_ ?_<;>intro cb h
 ·refine Ax<|As<|B2 Int (fun aj=>[(1,.func (.func 133) #[] #[Aad ba1_c0]),(23,va0_1),(24,No (a0.2.length:Int)),(25,No a)]) (fun aj wr=>FX k (Ha [.box ba1_c0 [No aj] 3,.box q [No a0.1,va0_1] 46] O) wr fun Oz=>AJ (.pair .st (.vec Akp)) (gz H k wr Oz) va0_1 (a0.2)/\Le (fz w (Ha [.box ba1_c0 [No a1_c0] 3] O)) (fz wr Oz)/\(F3 a) aj=some a7) ?_ ?_
  ·refine A4<|Aj<|A2 h fun bh h=>Bi z a.toNat (GX bh) (AX bh) ?_;rintro d0 _ ⟨_,_,rfl,rfl,⟨e228v1,rfl,e228h1⟩⟩ cc;refine Ai (Cz cc (An a6))<|A9 RE.e Z a6 fun d1 c cd ac _=>Af 0 Z cd Z (a:=(Bk Z (Bk e228h1.one Kq))) fun de a8 ad=>Ad<|Bx 1 Z<|Ai (Ae Z AjI Z HO.e)<|Ai (Ag 0 Z a8 Z)<|Ai (IP Z) ?_;have bi:Bb k (Ha [.box ba1_c0 [No aa] 3,.box c [.string ⟨((a0.2.getD a.toNat Qq2).1).toArray⟩,e228v1] 192,.box q [No a0.1,va0_1] 46] O) de:=a8.C1 [1] Z;have ae:=B3 [1] a8 bi Z;refine Aw h fun df ce h=>Fl Z Z (Ep hH ((Ha [.box c [.string ⟨((a0.2.getD a.toNat Qq2).1).toArray⟩,e228v1] 192,.box q [No a0.1,va0_1] 46] O)) ((((a0.2.getD a.toNat Qq2).1).length:Int)) aa bi ce) ?_;rintro _ d2 ⟨rfl,bj,af⟩;refine Ad ?_
   refine B2 Int (fun ak=>[(1,.func (.func 133) #[] #[Aad ba1_c0]),(5,(Aad c)),(23,va0_1),(24,No (a0.2.length:Int)),(25,No a)]) (fun ak wr=>FX k (Ha [.box ba1_c0 [No ak] 3,.box c [.string ⟨((a0.2.getD a.toNat Qq2).1).toArray⟩,e228v1] 192,.box q [No a0.1,va0_1] 46] O) wr fun Oz=>AJ (.pair .st (.vec Akp)) (gz H k wr Oz) va0_1 (a0.2)/\AJ Akp (gz H k wr Oz) e228v1 ((a0.2.getD a.toNat Qq2).2)/\Le (fz w (Ha [.box ba1_c0 [No a1_c0] 3] O)) (fz wr Oz)/\(F4 a0 a) ak=some a7) ?_ ?_
   ·refine Aj<|Ai (Ae Z AjI Z HO.e)<|Ai (Ag 1 Z bj Z)<|A2 h fun cf h=>Ad0 (H:=H) bj cf fun b7 d3 ds cg al bk=>Ai (Bm bk)<|A8 1 Z<|A4 ?_;obtain⟨bf,h⟩:=Ba h;have z:=z.mono (Aa (ac.trans (ad.trans (ae.trans (af.trans al)))));have e228h1:=e228h1.mono (Aa (ac.trans (ad.trans (ae.trans (af.trans al)))));have hT:=hT.trans (ac.trans (ad.trans (ae.trans (af.trans al))))
    refine B7 (Int×Int×Nat) (fun⟨ab,e,n⟩=>[(1,.func (.func 133) #[] #[Aad ba1_c0]),(5,(Aad c)),(23,va0_1),(24,No (a0.2.length:Int)),(25,No a),(36,b7),(37,No (((a0.2.getD a.toNat Qq2).1).length:Int)),(38,No e)]) (fun⟨ab,e,n⟩ wr=>FX k (Ha [.box ba1_c0 [No ab] 3,.box c [.string ⟨((a0.2.getD a.toNat Qq2).1).toArray⟩,e228v1] 192,.box q [No a0.1,va0_1] 46] O) wr fun Oz=>AJ (.pair .st (.vec Akp)) (gz H k wr Oz) va0_1 (a0.2)/\AJ .byte (gz H k wr Oz) b7 ((a0.2.getD a.toNat Qq2).1)/\AJ Akp (gz H k wr Oz) e228v1 ((a0.2.getD a.toNat Qq2).2)/\Le (fz w (Ha [.box ba1_c0 [No a1_c0] 3] O)) (fz wr Oz)/\Ia (C3 a0 a) n (ab,e)=some a7) (fun⟨ab,e,n⟩=>n) (df,0,bf) Z ⟨cg,z,bk,e228h1,hT,h⟩ ?_;rintro⟨ab,e,nn280⟩ dt ⟨ai,a3,a4,a5,hT,h⟩;obtain⟨bf,d4,rfl,h,bl⟩:=AZ h;have l:=ai.rG H;refine AI 1 Z<|AB<|AQ h ?_ ?_<;>intro ch h
    ·refine Ax<|As<|AB<|A4<|Aj<|A2 h fun bm h=>Bi (a4.mono l) e.toNat (GX bm) (AX bm) ?_;rintro d5 _ rfl ci;refine Ai (Bl ci (An ai))<|A8 1 Z<|Au<|Ar 2 Z<|Ai (Lm (Rc _))<|A2 h fun cj h=>Ai (A7 cj)<|Aw h fun dg ck h=>Fl Z Z (Ep hH ((Ha [.box c [.string ⟨((a0.2.getD a.toNat Qq2).1).toArray⟩,e228v1] 192,.box q [No a0.1,va0_1] 46] O)) ((((((a0.2.getD a.toNat Qq2).1).getD e.toNat Qq2).toNat:Int)+1)) ab ai ck) ?_;rintro _ d6 ⟨rfl,cl,bd⟩;refine AL<|A3<|As<|Au<|A2 h fun cm h=>Ai (A7 cm)<|Ar 1 Z<|AL ?_;have h:=Cf.again h bl;have l:=l.trans (Aa bd);have hT:=hT.trans bd;refine AM (_,_,_) Z ⟨cl,(a3.mono l),(a4.mono l),(a5.mono l),hT,h⟩
    refine B4<|AF<|A5 ?_;have h:=Cf.out h bl;refine Bg<|AA _ ⟨ai,(a3.mono l),(a5.mono l),hT,h⟩
   have hT:=hT.trans (ac.trans (ad.trans (ae.trans af)));rintro ak du ⟨bn,ag,s,hT,h⟩;refine Bx 1 Z<|Ai (Ae Z AjI Z AdV.e)<|Ai (Ag 1 Z bn Z)<|Ai (Bm s)<|Aw h fun dh cn h=>Fl Z Z (Ep hH ((Ha [.box c [.string ⟨((a0.2.getD a.toNat Qq2).1).toArray⟩,e228v1] 192,.box q [No a0.1,va0_1] 46] O)) ((((a0.2.getD a.toNat Qq2).2).length:Int)) ak bn cn) ?_;rintro _ d7 ⟨rfl,co,am⟩;refine Ad<|Aj<|Ai (AT (fun _=>AdX _ _))<|A9 H7.e Z co fun d8 o cp an _=>Af 0 Z cp Z fun d9 bo ao=>Ad<|Aj<|Ai (Ae Z AjI Z AdV.e)<|Ai (Ag 2 Z bo Z) ?_;have s:=s.mono (Aa (am.trans (an.trans ao)));refine Ai (Bm s)<|A8 1 Z<|A4 ?_;obtain⟨a9,h⟩:=Ba h;have ag:=ag.mono (Aa (am.trans (an.trans ao)));have hT:=hT.trans (am.trans (an.trans ao))
   refine B7 (Int×Int×Int×Int×Nat) (fun⟨g,j,p,b,n⟩=>[(1,.func (.func 133) #[] #[Aad ba1_c0]),(8,(Aad o)),(23,va0_1),(24,No (a0.2.length:Int)),(25,No a),(55,e228v1),(56,No (((a0.2.getD a.toNat Qq2).2).length:Int)),(57,No b)]) (fun⟨g,j,p,b,n⟩ wr=>FX k (Ha [.box o [No g,No j] 137,.box ba1_c0 [No p] 3,.box c [.string ⟨((a0.2.getD a.toNat Qq2).1).toArray⟩,e228v1] 192,.box q [No a0.1,va0_1] 46] O) wr fun Oz=>AJ (.pair .st (.vec Akp)) (gz H k wr Oz) va0_1 (a0.2)/\AJ Akp (gz H k wr Oz) e228v1 ((a0.2.getD a.toNat Qq2).2)/\Le (fz w (Ha [.box ba1_c0 [No a1_c0] 3] O)) (fz wr Oz)/\Ia (BQ a0 a) n (g,j,p,b)=some a7) (fun⟨g,j,p,b,n⟩=>n) (0,(-1),dh,0,a9) Z ⟨bo,ag,s,hT,h⟩ ?_;rintro⟨g,j,p,b,nn330⟩ dv ⟨ba,d,f,hT,h⟩;obtain⟨a9,ea,rfl,h,bb⟩:=AZ h;refine AI 1 Z<|AB<|AQ h ?_ ?_<;>intro cq h
   ·refine Ax<|As<|AB<|A4<|Aj<|A2 h fun bp h=>Bi f b.toNat (GX bp) (AX bp) ?_;rintro eb _ ⟨_,_,rfl,rfl,rfl⟩ cr;refine Ai (Cz cr (An ba))<|A9 H7.e Z ba fun ec ah cs u _=>Af 0 Z cs Z fun b8 m x=>Ad<|AB<|Aj<|Ai (Ae Z Aj7 Z CR.e)<|Ai (Ag 0 Z m Z)<|Ai (Ae Z Aj7 Z CR.e)<|Ai (Ag 1 Z m Z)<|A8 1 Z<|CX h ?_ ?_<;>intro ct h
    ·refine Bx 1 Z<|Ai (Ae Z Aj7 Z CR.e)<|Ai (Ag 0 Z m Z)<|A2 h fun cu h=>Ai (A7 cu)<|Ai (Ae Z Aj7 Z CR.e)<|Ai (Ag 1 Z m Z)<|A2 h fun cv h=>Ai (A7 cv) ?_;have bq:Bb k (Ha [.box ba1_c0 [No p] 3,.box ah [No ((((a0.2.getD a.toNat Qq2).2).getD b.toNat Qq2).1),No ((((a0.2.getD a.toNat Qq2).2).getD b.toNat Qq2).2)] 137,.box o [No g,No j] 137,.box c [.string ⟨((a0.2.getD a.toNat Qq2).1).toArray⟩,e228v1] 192,.box q [No a0.1,va0_1] 46] O) b8:=m.C1 [2] Z;have ap:=B3 [2] m bq Z;refine Aw h fun di cw h=>Fl Z Z (Ep hH ((Ha [.box ah [No ((((a0.2.getD a.toNat Qq2).2).getD b.toNat Qq2).1),No ((((a0.2.getD a.toNat Qq2).2).getD b.toNat Qq2).2)] 137,.box o [No g,No j] 137,.box c [.string ⟨((a0.2.getD a.toNat Qq2).1).toArray⟩,e228v1] 192,.box q [No a0.1,va0_1] 46] O)) (((1+(((a0.2.getD a.toNat Qq2).2).getD b.toNat Qq2).1) - g)) p bq cw) ?_
     rintro _ ed ⟨rfl,br,aq⟩;refine Ad<|Au<|Ar 1 Z<|Ai (Ae Z Aj7 Z CR.e)<|Ai (Ag 1 Z br Z)<|A2 h fun cx h=>Ai (A7 cx)<|Aw h fun b9 cy h=>Fl Z Z (Ep hH ((Ha [.box ah [No ((((a0.2.getD a.toNat Qq2).2).getD b.toNat Qq2).1),No ((((a0.2.getD a.toNat Qq2).2).getD b.toNat Qq2).2)] 137,.box o [No g,No j] 137,.box c [.string ⟨((a0.2.getD a.toNat Qq2).1).toArray⟩,e228v1] 192,.box q [No a0.1,va0_1] 46] O)) (((((a0.2.getD a.toNat Qq2).2).getD b.toNat Qq2).2+1)) di br cy) ?_;rintro _ ee ⟨rfl,bs,ar⟩;refine AL<|As<|Au<|Ai (Az 1 Z H7.e bs Z)<|Af 2 Z bs Z fun dj cz au=>AL<|A3<|As<|Au<|A2 h fun c0 h=>Ai (A7 c0)<|Ar 1 Z<|AL ?_;have bt:=cz.AS (i:=1) Z
     have bu:Bb k (Ha [.box o [No ((((a0.2.getD a.toNat Qq2).2).getD b.toNat Qq2).1),No ((((a0.2.getD a.toNat Qq2).2).getD b.toNat Qq2).2)] 137,.box ba1_c0 [No b9] 3,.box c [.string ⟨((a0.2.getD a.toNat Qq2).1).toArray⟩,e228v1] 192,.box q [No a0.1,va0_1] 46] O) dj:=bt.C1 [1] Z;have av:=B3 [1] bt bu Z;have h:=Cf.again h bb;have d:=d.mono (Aa (u.trans (x.trans (ap.trans (aq.trans (ar.trans (au.trans ((Ak (i:=1) Z).trans av))))))));have f:=f.mono (Aa (u.trans (x.trans (ap.trans (aq.trans (ar.trans (au.trans ((Ak (i:=1) Z).trans av))))))));have hT:=hT.trans (u.trans (x.trans (ap.trans (aq.trans (ar.trans (au.trans ((Ak (i:=1) Z).trans av)))))));refine AM (_,_,_,_,_) Z ⟨bu,d,f,hT,h⟩
    refine Bx 1 Z ?_;have bv:Bb k (Ha [.box ba1_c0 [No p] 3,.box ah [No ((((a0.2.getD a.toNat Qq2).2).getD b.toNat Qq2).1),No ((((a0.2.getD a.toNat Qq2).2).getD b.toNat Qq2).2)] 137,.box o [No g,No j] 137,.box c [.string ⟨((a0.2.getD a.toNat Qq2).1).toArray⟩,e228v1] 192,.box q [No a0.1,va0_1] 46] O) b8:=m.C1 [2] Z;have aw:=B3 [2] m bv Z;refine Aw h fun dk c1 h=>Fl Z Z (Ep hH ((Ha [.box ah [No ((((a0.2.getD a.toNat Qq2).2).getD b.toNat Qq2).1),No ((((a0.2.getD a.toNat Qq2).2).getD b.toNat Qq2).2)] 137,.box o [No g,No j] 137,.box c [.string ⟨((a0.2.getD a.toNat Qq2).1).toArray⟩,e228v1] 192,.box q [No a0.1,va0_1] 46] O)) 1 p bv c1) ?_;rintro _ ef ⟨rfl,bc,ax⟩;refine Ad<|Au<|Ar 1 Z<|Ai (Ae Z Aj7 Z CR.e)<|Ai (Ag 1 Z bc Z)<|Ai (Ae Z Aj7 Z CR.e)<|Ai (Ag 2 Z bc Z)<|A2 h fun c2 h=>Ai (A7 c2)<|Aw h fun ca c3 h=>?_
    refine Fl Z Z (Ep hH ((Ha [.box ah [No ((((a0.2.getD a.toNat Qq2).2).getD b.toNat Qq2).1),No ((((a0.2.getD a.toNat Qq2).2).getD b.toNat Qq2).2)] 137,.box o [No g,No j] 137,.box c [.string ⟨((a0.2.getD a.toNat Qq2).1).toArray⟩,e228v1] 192,.box q [No a0.1,va0_1] 46] O)) (((((a0.2.getD a.toNat Qq2).2).getD b.toNat Qq2).2 - j)) dk bc c3) ?_;rintro _ eg ⟨rfl,bw,ay⟩;refine AL<|As<|Au<|Ai (Az 1 Z H7.e bw Z)<|Af 2 Z bw Z fun dl c4 az=>AL<|A3<|As<|Au<|A2 h fun c5 h=>Ai (A7 c5)<|Ar 1 Z<|AL ?_;have bx:=c4.AS (i:=1) Z;have bz:Bb k (Ha [.box o [No ((((a0.2.getD a.toNat Qq2).2).getD b.toNat Qq2).1),No ((((a0.2.getD a.toNat Qq2).2).getD b.toNat Qq2).2)] 137,.box ba1_c0 [No ca] 3,.box c [.string ⟨((a0.2.getD a.toNat Qq2).1).toArray⟩,e228v1] 192,.box q [No a0.1,va0_1] 46] O) dl:=bx.C1 [1] Z;have a2:=B3 [1] bx bz Z;have h:=Cf.again h bb
    have d:=d.mono (Aa (u.trans (x.trans (aw.trans (ax.trans (ay.trans (az.trans ((Ak (i:=1) Z).trans a2))))))));have f:=f.mono (Aa (u.trans (x.trans (aw.trans (ax.trans (ay.trans (az.trans ((Ak (i:=1) Z).trans a2))))))));have hT:=hT.trans (u.trans (x.trans (aw.trans (ax.trans (ay.trans (az.trans ((Ak (i:=1) Z).trans a2)))))));refine AM (_,_,_,_,_) Z ⟨bz,d,f,hT,h⟩
   refine B4<|AF<|A5 ?_;have h:=Cf.out h bb;refine Bg<|A3 ?_;have c6:=ba.AS (i:=0) Z;have c7:=c6.AS (i:=1) Z;have d:=d.mono (Aa ((Ak (i:=0) Z).trans (Ak (i:=1) Z)));have hT:=hT.trans ((Ak (i:=0) Z).trans (Ak (i:=1) Z));refine AA _ ⟨c7,d,hT,h⟩
  rintro aj dw ⟨c8,b0,hT,h⟩;refine Au<|A2 h fun c9 h=>Ai (A7 c9)<|Ar 1 Z<|AL ?_;have h:=Cf.again h bg;refine AM (_,_,_) Z ⟨c8,b0,hT,h⟩
 refine B4<|AF<|A5 ?_;have h:=Cf.out h bg;refine Bg ?_
 cases h
 refine LI ?_;have da:=a6.AS (i:=1) Z;have hT:=hT.trans (Ak (i:=1) Z);exact⟨Z,da,hT⟩
def HU(a0:Int)(a:List (AaV×Ake)):Option Akl:=
 Qq4 (FR (a0,a) (0:Int)) (fun c=>if 131072<c then Qq4 (DW (14:Int) (-1:Int)) (fun b=>some ((0,[]),(b.1,b.2))) else some ((a0,a),(0,0)))
def Hi(a0:Int)(a1:List (AaV×Ake))(b:(List AaV)):Akc×Int->Option ((Akc×Int) ⊕ Akl):=fun⟨c,a⟩=>
 if a<(b.length:Int) then AN (0<=a/\a<(b.length:Int)) (AN (Go.E.HK 40 (c.length+([(b.getD a.toNat Qq2,(BV [] (b.getD a.toNat Qq2) a1))]).length)) (AN (Bz (a+1)) (some (Sum.inl ((c++[(b.getD a.toNat Qq2,(BV [] (b.getD a.toNat Qq2) a1))]),(a+1)))))) else Qq7 Sum.inr ((HU a0) c)
def Ma(a0:Int)(a1:List (AaV×Ake))(a:(List AaV))(s:Akc×Int):Option Akl:=Go.L.run (Hi a0 a1 a) s
def LA(a0:Int)(a1:List (AaV×Ake)):Option Akl:=
 Qq4 (MD a1) (fun a=>(Ma a0 a1 a) (([]:List (AaV×Ake)),0))
section
variable(w:World)(H:PH)(hH:Le H (hp w)) include hH
theorem V7{a0:Int}{a1:List (AaV×Ake)}{x:Value}(ah:Wp encS (.vec Akp) H x a1){r:(Int×Akc)×(Int×Int)}(h:LA a0 a1=some r):
  Qqv 80 [No a0,x] w (fun v w'=>∃ u0,v=.tuple #[.agg #[No r.1.1,u0],.agg #[No r.2.1,No r.2.2]]/\AJ (.pair .st (.vec Akp)) (un H (nw w w')) u0 (r.1.2)):=by
 refine A1 40 [(0,No a0),(1,x)] func80 Z fun hL=>Aj<|A9 LN.e Z hL fun w1 b1 bt b6 _=>A9 AE.e Z bt fun w2 b2 bu b7 _=>Ad<|Bx 1 Z<|Ai (AT (fun _=>Agi _ _))<|A9 LN.e Z bu fun w3 b3 bv b8 _=>Af 0 Z bv Z fun w4 al b9=>Ad<|B2 (Akc×Value×(List Value)) (fun⟨u,p,j⟩=>[(4,(Aad b1)),(5,(Aad b2)),(6,(Aad b3))]) (fun⟨u,p,j⟩ wr=>FX w [.row p 192 2 (u).length j,.box b3 [No a0,p] 46,.box b2 [No 0,No 0] 28,.box b1 [No 0,Aac] 46] wr fun Oz=>AH (.pair .st (.vec Akp)) (gz H w wr Oz) u j/\(HU a0) u=some r) ?_ ?_
 ·refine Bx 1 Z<|Bf al (Agy _ _ (An al) (ah.mono  Ah)) ?_;intro ce cf a3 a4 z bx;have a5:=a3.mono (Dt al a4);refine Aw h fun c a6 h=>Bf z (Acv _ _ (An z) a5 a6) ?_;rintro ae cg ⟨_,rfl,am⟩ a7 a8 bz;have d:=am.Du hH z a7;refine Ai (Bm d)<|A8 1 Z<|A4 ?_;obtain⟨a9,au,ba⟩:=DI (.pair .st (.vec Akp)) H 192 a8;obtain⟨an,h⟩:=Ba h;have d:=d.mono (Aa au)
  refine B7 (Akc×Int×Value×(List Value)×Nat) (fun⟨e,a,g,b,n⟩=>[(1,x),(4,(Aad b1)),(5,(Aad b2)),(6,(Aad b3)),(14,ae),(15,No (c.length:Int)),(16,No a)]) (fun⟨e,a,g,b,n⟩ wr=>FX w [.row g 192 2 (e).length b,.box b3 [No a0,g] 46,.box b2 [No 0,No 0] 28,.box b1 [No 0,Aac] 46] wr fun Oz=>AJ .st (gz H w wr Oz) ae c/\AH (.pair .st (.vec Akp)) (gz H w wr Oz) e b/\Ia (Hi a0 a1 c) n (e,a)=some r) (fun⟨e,a,g,b,n⟩=>n) (([]:List (AaV×Ake)),0,Aac,[],an) Z ⟨a9,d,ba,h⟩ ?_;rintro⟨e,a,g,b,nn60⟩ ca ⟨q,f,o,h⟩;obtain⟨an,ch,rfl,h,ao⟩:=AZ h;refine AI 1 Z<|AB<|AQ h ?_ ?_<;>intro bb h
  ·refine Ax<|As<|AB<|A4<|Aj<|A2 h fun ap h=>Bi f a.toNat (GX ap) (AX ap) ?_;rintro ci _ rfl bc;refine Ai (Bl bc (An q))<|A8 1 Z<|Au<|Ai (Ae Z AjK Z Aai.e)<|Ai (Ag 1 Z q Z)<|Ar 3 Z<|Abs (k:=c.getD a.toNat Qq2) Aih zeroValue109 ah (hH.trans q.arg) fun cj aq=>Ai (AT (fun _=>Aal _ Z _ aq.one _))<|B9 ([(c.getD a.toNat Qq2,(BV [] (c.getD a.toNat Qq2) a1))]) (r:=(.pair .st (.vec Akp))) (fun _=>Agq _ _ _) q (.c2 ⟨_,_,Z,Z,⟨_,Z,(aq.mono  Ah)⟩⟩ .nil) fun ck cl cb bd af be=>A2 h fun bf h=>?_;have o:=o.mono (Aa af);refine Bt (r:=(.pair .st (.vec Akp))) 0 e ([(c.getD a.toNat Qq2,(BV [] (c.getD a.toNat Qq2) a1))]) Z AjJ bd Z o be bf fun bw cm bg ar av aa=>Ai (Ae Z AjK Z Aai.e) ?_
   refine B5 1 Z (row_one (ar.at (i:=0) Z)) ar Z Z fun cn bh ag=>AL<|A3<|As<|Au<|A2 h fun bi h=>Ai (A7 bi)<|Ar 1 Z<|AL ?_;have h:=Cf.again h ao;have f:=f.mono (Aa (af.trans (av.trans ag)));have aa:=aa.mono (Aa ag);refine AM (_,_,_,_,_) Z ⟨bh,f,aa,h⟩
  refine B4<|AF<|A5 ?_;have h:=Cf.out h ao;refine Bg<|AA (_,_,_) ⟨q,o,h⟩
 rintro⟨u,p,j⟩ cc ⟨bj,y,h⟩;refine Aj<|A9 CR.e Z bj fun co cp bk aw _=>B5 0 Z Z bk Z Z fun cq ab ax=>Ad<|Aj<|Ai (Az 2 Z LN.e ab Z)<|Ar 1 Z ?_;have y:=y.mono (Aa (aw.trans ax));have s:=ab.Du hH (i:=1) Z y;have bl:=ab.AS (i:=1) Z;refine Aw h fun cr bm h=>ES (PC (a0:=(a0,u)) (a1_c0:=0) (O:=[.box b3 [No a0,p] 46,.box b2 [No 0,No 0] 28,.box b1 [No 0,Aac] 46]) hH bl s bm) ?_;rintro _ cs ⟨rfl,t,ay⟩;refine Ad<|AB<|Aj<|Ai (Ag 0 Z t Z)<|A8 1 Z<|AQ h ?_ ?_<;>intro bn h
 ·refine Aj<|Ai (AT (fun _=>XK _))<|Aw h fun ct bo h=>AD t (D5 _ _ (An t) bo) fun cu cd bp b0=>Af 3 Z bp Z fun cv bq b4=>Af 2 Z bq Z fun cw ac b5=>Ad<|Ay<|Aq ?_
  cases h
  refine Bo (.cell Z AjK Z LN.e (AG (i:=3) ac Z)) (.cell Z Ajx Z AE.e (AG (i:=2) ac Z)) ⟨ac.ext,_,Z,(AJ.nil _ _)⟩
 refine Ax<|As<|Aj<|Ai (Az 1 Z LN.e t Z)<|Ai (AT (fun _=>BM _))<|Af 3 Z t Z (a:=(Bk Z (Bk s.one Kq))) fun cx br az=>Af 2 Z br Z fun cy ad a2=>Ad<|Ay ?_
 cases h
 refine Bo (.cell Z AjK Z LN.e (AG (i:=3) ad Z)) (.cell Z Ajx Z AE.e (AG (i:=2) ad Z)) ?_;have s:=s.mono (Aa (ay.trans (az.trans a2)));exact⟨ad.ext,_,Z,(s.mono  EE)⟩
def Kd(a:Int)(b:List (AaV×Ake)):Option ((Akc×Int) ⊕ Akl):=
 AN (Bz (a+1)) (some (Sum.inl (b,(a+1))))
def Hj(c:Int)(b:Akf×(Int×Int)):Akc×Int->Option ((Akc×Int) ⊕ ((Akc×Int) ⊕ Akl)):=fun⟨d,a⟩=>
 if a<(b.1.length:Int) then AN (0<=a/\a<(b.1.length:Int)) (AN (Go.E.HK 16 ((BV [] ((b.1.getD a.toNat Qq2).1) d).length+1)) (AN (Bz (a+1)) (some (Sum.inl ((Ge ((b.1.getD a.toNat Qq2).1) ((BV [] ((b.1.getD a.toNat Qq2).1) d)++[(c,a)]) d),(a+1)))))) else Qq7 Sum.inr ((Kd c) d)
def Ke(a:Int)(b:Akf×(Int×Int))(s:Akc×Int):Option ((Akc×Int) ⊕ Akl):=Go.L.run (Hj a b) s
def HV(a0:List AaV)(b:List (AaV×Ake)):Option Akl:=
 Qq4 (LA (a0.length:Int) b) (fun a=>some ((a.1.1,a.1.2),(a.2.1,a.2.2)))
def EP(a0:List AaV):Akc×Int->Option ((Akc×Int) ⊕ Akl):=fun⟨c,a⟩=>
 if a<(a0.length:Int) then AN (0<=a/\a<(a0.length:Int)) (Qq4 (Ji (a0.getD a.toNat Qq2)) (fun b=>if b.2.1=0/\b.2.2=0 then(Ke a b) (c,0) else Qq4 (DW b.2.1 a) (fun d=>Qq7 Sum.inr (some ((0,[]),(d.1,d.2)))))) else Qq7 Sum.inr ((HV a0) c)
def Oa(a0:List AaV)(s:Akc×Int):Option Akl:=Go.L.run (EP a0) s
def Jj(a0:List AaV):Option Akl:=
 if 64<(a0.length:Int) then Qq4 (DW (2:Int) (-1:Int)) (fun a=>some ((0,[]),(a.1,a.2))) else(Oa a0) (([]:List (AaV×Ake)),0)
theorem V8(hU:Gq H){a0:List AaV}{m:Value}(ah:AJ (.vec .byte) H m a0){r:(Int×Akc)×(Int×Int)}(h:Jj a0=some r):
  Qqv 47 [m] w (fun v w'=>∃ u0,v=.tuple #[.agg #[No r.1.1,u0],.agg #[No r.2.1,No r.2.2]]/\AJ (.pair .st (.vec Akp)) (un H (nw w w')) u0 (r.1.2)):=by
 refine A1 64 [(0,m)] func47 Z fun hL=>Aj<|A9 LN.e Z hL fun w1 b1 cg cz _=>A9 AE.e Z cg fun w2 b2 a2 c0 _=>Ad<|AB<|Bx 1 Z<|Ai (Bm ah)<|A8 1 Z<|AQ h ?_ ?_<;>intro ch h
 ·refine Aj<|Ai (AT (fun _=>XK _))<|Aw h fun x5 ci h=>AD a2 (D5 _ _ (An a2) ci) fun w6 dt cj c1=>Af 1 Z cj Z fun w7 ck c3=>Af 0 Z ck Z fun w8 a3 c4=>Ad<|Ay<|Aq ?_
  cases h
  refine Bo (.cell Z AjK Z LN.e (AG (i:=1) a3 Z)) (.cell Z Ajx Z AE.e (AG (i:=0) a3 Z)) ⟨a3.ext,_,Z,(AJ.nil _ _)⟩
 refine Ax<|As<|Aj<|WM encS Ake a2 fun du o ce cs=>A8 1 Z<|B2 (Akc×(List Value)) (fun⟨t,vsl142⟩=>[(0,m),(2,(Aad b1)),(3,(Aad b2)),(4,.map (some o))]) (fun⟨t,vsl142⟩ wr=>FX w (Ha [RD encS o t vsl142,.box b2 [No 0,No 0] 28,.box b1 [No 0,Aac] 46] (mT Acl 137 2 t vsl142)) wr fun Oz=>(t).length=(vsl142).length/\(HV a0) t=some r) ?_ ?_
 ·refine Bx 1 Z<|Ai (Bm ah)<|A8 1 Z<|A4 ?_;obtain⟨aq,h⟩:=Ba h;refine B7 (Akc×Int×(List Value)×Nat) (fun⟨p,c,vsl209,n⟩=>[(0,m),(2,(Aad b1)),(3,(Aad b2)),(4,.map (some o)),(17,m),(18,No (a0.length:Int)),(19,No c)]) (fun⟨p,c,vsl209,n⟩ wr=>FX w (Ha [RD encS o p vsl209,.box b2 [No 0,No 0] 28,.box b1 [No 0,Aac] 46] (mT Acl 137 2 p vsl209)) wr fun Oz=>(p).length=(vsl209).length/\Ia (EP a0) n (p,c)=some r) (fun⟨p,c,vsl209,n⟩=>n) (([]:List (AaV×Ake)),0,([]:List Value),aq) Z ⟨ce,Z,h⟩ ?_;rintro⟨p,c,vsl209,nn211⟩ ct ⟨ab,ao,h⟩;obtain⟨aq,a4,rfl,h,ai⟩:=AZ h;refine AI 1 Z<|AB<|AQ h ?_ ?_<;>intro bi h
  ·refine Ax<|As<|B2 (Akc×(List Value)) (fun⟨aa,vsl273⟩=>[(0,m),(2,(Aad b1)),(3,(Aad b2)),(4,.map (some o)),(17,m),(18,No (a0.length:Int)),(19,No c)]) (fun⟨aa,vsl273⟩ wr=>FX w (Ha [RD encS o aa vsl273,.box b2 [No 0,No 0] 28,.box b1 [No 0,Aac] 46] (mT Acl 137 2 aa vsl273)) wr fun Oz=>(aa).length=(vsl273).length/\(Kd c) aa=some a4) ?_ ?_
   ·refine A4<|Bx 1 Z<|A2 h fun au h=>Bi ah c.toNat (GX au) (AX au) ?_;rintro c5 _ ⟨e276v0,rfl,e276h0⟩ bj;refine Ai (Bl bj (hH.trans ab.arg))<|A8 2 Z<|Bx 1 Z<|Aw h fun b bk h=>Bf ab (V6 _ _ (An ab) (hU.mono  Ah) (e276h0.mono  Ah) bk) ?_;rintro _ c6 ⟨ap,rfl,az⟩ bl bm cl;have u:=az.Du hH ab bl;refine Ar 3 Z<|A9 AE.e Z bm fun c7 af bn a5 _=>Ar 1 Z<|Af 0 Z bn Z fun c8 ac a6=>Ad<|AB<|Aj<|Ai (Az 0 Z AE.e ac Z)<|Ai (AT (fun _=>BM _))<|Ai (JO Jh (Nc _ _ _ _))<|Ad<|CX h ?_ ?_<;>intro bo h
    ·refine Aj<|Ai (AT (fun _=>XK _))<|Ai (Ae Z Ajx Z CR.e)<|Ai (Ag 0 Z ac Z)<|Ar 1 Z<|Aw h fun c9 bp h=>AD ac (D5 _ _ (An ac) bp) fun da cu bq cm=>Af 3 Z bq Z fun db br cn=>Af 2 Z br Z fun dc aj co=>Ad<|Ay<|Aq<|Av<|Bs<|BJ ?_;have h:=Cf.out h ai;refine Av<|Bs ?_
     cases h
     refine Bo (.cell Z AjK Z LN.e (AG (i:=3) aj Z)) (.cell Z Ajx Z AE.e (AG (i:=2) aj Z)) ⟨aj.ext,_,Z,(AJ.nil _ _)⟩
    refine Ax<|As<|Bx 1 Z ?_;have u:=u.mono (Aa (a5.trans a6));refine Ai (Bm u)<|A8 1 Z<|A4 ?_;obtain⟨ar,h⟩:=Ba h;refine B7 (Akc×Int×(List Value)×Nat) (fun⟨d,a,vsl310,n⟩=>[(0,m),(2,(Aad b1)),(3,(Aad b2)),(4,.map (some o)),(5,No c),(17,m),(18,No (a0.length:Int)),(19,No c),(37,ap),(38,No (b.1.length:Int)),(39,No a)]) (fun⟨d,a,vsl310,n⟩ wr=>FX w (Ha [.box af [No b.2.1,No b.2.2] 28,RD encS o d vsl310,.box b2 [No 0,No 0] 28,.box b1 [No 0,Aac] 46] (mT Acl 137 2 d vsl310)) wr fun Oz=>AJ (.pair .st Akp) (gz H w wr Oz) ap (b.1)/\(d).length=(vsl310).length/\Ia (Hj c b) n (d,a)=some a4) (fun⟨d,a,vsl310,n⟩=>n) (p,0,vsl209,ar) Z ⟨ac,u,ao,h⟩ ?_;rintro⟨d,a,vsl310,nn312⟩ cv ⟨ak,x,ag,h⟩;obtain⟨ar,dd,rfl,h,av⟩:=AZ h;refine AI 1 Z<|AB<|AQ h ?_ ?_<;>intro bs h
    ·refine Ax<|As<|AB<|A4<|Bx 1 Z<|A2 h fun aw h=>Bi x a.toNat (GX aw) (AX aw) ?_;rintro de _ ⟨_,_,rfl,rfl,⟨_,_,rfl,rfl,rfl⟩⟩ bt;refine Ai (Cz bt (An ak))<|A9 OV.e Z ak fun df al bu a7 _=>Ar 1 Z<|Af 0 Z bu Z fun dg ax a8=>Ad ?_
     refine J7 (Jz (Tl (Su (Jz (Jz (NP (Su (Jz (NP MP))))))))) (fun z0 z=>Le (gz H w z0 (Ha [.box al [.string ⟨((b.1.getD a.toNat Qq2).1).toArray⟩,No ((b.1.getD a.toNat Qq2).2.1),No ((b.1.getD a.toNat Qq2).2.2)] 135,.box af [No b.2.1,No b.2.2] 28,RD encS o d vsl310,.box b2 [No 0,No 0] 28,.box b1 [No 0,Aac] 46] (mT Acl 137 2 d vsl310))) (hp z)/\z.heap[al]? = some (.cells [.string ⟨((b.1.getD a.toNat Qq2).1).toArray⟩,No ((b.1.getD a.toNat Qq2).2.1),No ((b.1.getD a.toNat Qq2).2.2)].toArray 135 (0,0))/\z.heap[af]? = some (.cells [No b.2.1,No b.2.2].toArray 28 (0,0))/\z.heap[b2]? = some (.cells [No 0,No 0].toArray 28 (0,0))/\z.heap[b1]? = some (.cells [No 0,Aac].toArray 46 (0,0))/\z.heap[o]? = some (.map (mE encS 0 ((d).map Qq6) vsl310).toArray (d).length)) mixed Z (fun f di ay=>?_);have j:=ax.call ay;have a9:=AR ax ay;have g:=j.rG H;refine MQ ⟨g.trans (An j),j.at (i:=0) Z,j.at (i:=1) Z,j.at (i:=3) Z,j.at (i:=4) Z,j.at (i:=2) Z⟩ fun kI323=>?_
     refine A6 0 f kI323 Z (fun _ _=>Am Z) Z<|A6 1 f kI323 Z (fun _ _=>Ae Z AjL Z HO.e) Z<|A6 2 f kI323 Z (fun _ hI=>KK Z hI.2.1 Z) Z<|A6 3 f kI323 Z (fun _ _=>Am Z) Z<|A6 4 f kI323 Z (fun _ _=>Ae Z AjL Z HO.e) Z<|A6 5 f kI323 Z (fun _ hI=>KK Z hI.2.1 Z) Z<|A6 6 f kI323 Z (fun _ hI=>Agd (k:=(b.1.getD a.toNat Qq2).1) (enc:=encS) Z Aih zeroValue109 hI.2.2.2.2.2 (by rw [Qzk];exact ag)) Z<|A6 7 f kI323 Z (fun _ _=>Am Z) Z<|A6 8 f kI323 Z (fun _ _=>Am Z) Z<|A6 9 f kI323 Z (fun _ _=>AT (fun _=>Vu _ _ _)) Z<|FY 10 Z<|B9 [(c,a)] (r:=Akp) (fun _=>YX _ _ _) j (.c2 ⟨_,_,Z,Z,Z⟩ .nil) ?_;intro dj dk cw q ba bv;have g:=g.trans (Aa ba)
     refine AV ⟨g.trans (An q),q.at (i:=0) Z,q.at (i:=1) Z,q.at (i:=3) Z,q.at (i:=4) Z,q.at (i:=2) Z⟩ fun kI325=>FY 11 Z<|A2 h fun bw h=>AdE (A:=[.box al [.string ⟨((b.1.getD a.toNat Qq2).1).toArray⟩,No ((b.1.getD a.toNat Qq2).2.1),No ((b.1.getD a.toNat Qq2).2.2)] 135,.box af [No b.2.1,No b.2.2] 28,RD encS o d vsl310,.box b2 [No 0,No 0] 28,.box b1 [No 0,Aac] 46]) (l:=d) (vs:=vsl310) (k:=(b.1.getD a.toNat Qq2).1) (z:=(c,a)) (r:=Akp) (H:=H) AdF Z Aj5 Qqc hH q ag bv bw ?_;intro dl dm T327 bb s bc;have g:=g.trans (Aa bc);refine AV ⟨g.trans (An s),s.at (i:=0) Z,s.at (i:=1) Z,s.at (i:=3) Z,s.at (i:=4) Z,s.at (i:=2) Z⟩ fun kI329=>FY 12 Z ?_
     refine AhZ (A:=[.box al [.string ⟨((b.1.getD a.toNat Qq2).1).toArray⟩,No ((b.1.getD a.toNat Qq2).2.1),No ((b.1.getD a.toNat Qq2).2.2)] 135,.box af [No b.2.1,No b.2.2] 28,RD encS o d vsl310,.box b2 [No 0,No 0] 28,.box b1 [No 0,Aac] 46]) (T:=T327) 2 bb Z Aih s Z fun bx dn bz b0 bd=>G7<|EF<|A3<|As<|Au<|A2 h fun b3 h=>Ai (A7 b3)<|Ar 1 Z<|AL ?_;have b4:=b0.AS (i:=0) Z;have h:=Cf.again h av;have x:=x.mono (Aa (a7.trans (a8.trans a9)));have g:=g.trans (Aa (bd.trans (Ak (i:=0) Z)));refine AM (_,_,_,_) Z ⟨b4,(x.mono g),bz,h⟩
    refine B4<|AF<|A5 ?_;have h:=Cf.out h av;refine Bg<|A3 ?_;have b5:=ak.AS (i:=0) Z;refine AA (_,_) ⟨b5,ag,h⟩
   rintro⟨aa,vsl273⟩ cx ⟨b6,be,h⟩;refine Au<|A2 h fun b7 h=>Ai (A7 b7)<|Ar 1 Z<|AL ?_;have h:=Cf.again h ai;refine AM (_,_,_,_) Z ⟨b6,be,h⟩
  refine B4<|AF<|A5 ?_;have h:=Cf.out h ai;refine Bg<|AA (_,_) ⟨ab,ao,h⟩
 rintro⟨t,vsl142⟩ cy ⟨b8,bf,h⟩;refine Bx 1 Z<|Ai (Bm ah)<|Ar 1 Z ?_;obtain⟨am,cp,b9⟩:=Abr (A:=[RD encS o t vsl142,.box b2 [No 0,No 0] 28,.box b1 [No 0,Aac] 46]) (l:=t) (vs:=vsl142) (e:=137) (r:=Akp) 0 Z AdF hH bf b8 Z;refine Aw h fun dp ca h=>Bf am (V7 _ _ (An am) b9 ca) ?_;rintro _ dq ⟨cq,rfl,a1⟩ cb cc cr;have y:=a1.mono (Dt am cb);refine Ar 2 Z<|Af 1 Z cc Z (a:=(Bk Z (Bk y.one Kq))) fun dr cd bg=>Af 0 Z cd Z fun ds an bh=>Ad<|Ay ?_
 cases h
 refine Bo (.cell Z AjK Z LN.e (AG (i:=1) an Z)) (.cell Z Ajx Z AE.e (AG (i:=0) an Z)) ?_;have y:=y.mono (Aa (bg.trans bh));exact⟨an.ext,_,Z,(y.mono  EE)⟩
end
end Go.Proofs.YtekmbcbgknmhiaaGreatDoor
end
noncomputable section
namespace Go.Proofs.YtekmbcbgknmhiaaGreatDoor
open Go Go.E Go.RowKit Go.L
set_option maxHeartbeats 1000000
set_option maxRecDepth 10000
open _root_.Go.Proofs.Tryz
def G0(a0:Int×Akc)(a1:AaV):Option (Ake×(Int×Int)):=
 Qq4 (H9 a1) (fun a=>if a.1=0/\a.2=0 then Qq4 (DD (a0.1,a0.2) a1) (fun b=>Qq4 (D7 b) (fun c=>some (c,(0,0)))) else some ([],(a.1,a.2)))
section
variable(w:World)(H:PH)(hH:Le H (hp w)) include hH
theorem N0(hU:Gq H){a0:Int×Akc}{a1:AaV}{b:Value}(u:AJ (.pair .st (.vec Akp)) H b (a0.2)){r:Ake×(Int×Int)}(h:G0 a0 a1=some r):
  Qqv 144 [.agg #[No a0.1,b],AaM a1] w (fun v w'=>∃ u0,v=.tuple #[u0,.agg #[No r.2.1,No r.2.2]]/\Ck 137 Akp H w w' u0 (r.1)):=by
 refine A1 18 [(0,.agg #[No a0.1,b]),(1,(AaM a1))] func144 Z fun hL=>Aj<|CD (t:=46) Z Z hL fun w1 b1 ae ao _=>Ar 1 Z<|A9 AE.e Z ae fun w2 b2 s ap _=>Ad<|AB<|Bx 1 Z<|Aw h fun x3 af h=>AD s (Kc _ _ (An s) (hU.mono  Ah) af) fun w4 aw ag aq=>A9 AE.e Z ag fun w5 b5 ah ar _=>Af 0 Z ah Z fun w6 a au=>Ad<|Aj<|Ai (Az 0 Z AE.e a Z)<|Ai (AT (fun _=>BM _))<|Ai (JO Jh (Nc _ _ _ _))<|Ad<|CX h ?_ ?_<;>intro ai h
 ·refine Ex (.q 0 (.q 1 (.tail 2))) mixed Qqb (fun w9 aj=>?_);have f:=a.call aj;refine CB Z (Az 0 Z AE.e f Z) Z<|D4 1 Z<|BT (fun ax x=>?_);have y:=f.call x;refine Af 1 Z y Z fun ay g ak=>Ad<|Ay<|Aq ?_
  cases h
  refine Bo (.tmp Z) (.cell Z Ajx Z AE.e (AG (i:=1) g Z)) ⟨g.ext,_,Z,Ck.nil⟩
 refine Ax<|As<|Aj<|Ai (Az 2 Z LN.e a Z)<|Ar 1 Z<|Aw h fun az z h=>Bf a (Hn (a0:=(a0.1,a0.2)) _ _ (An a) (u.mono  Ah) z) ?_;rintro al a2 ⟨_,rfl,j⟩ aa c am;have k:=j.mono (Dt a aa);refine Aw h fun a3 ab h=>Bf c (Mu _ _ (An c) k ab) ?_;rintro an a4 ⟨_,rfl,l⟩ ac m o;obtain⟨av,m,o,d⟩:=l.take hH c ac;refine Ai (AT (fun _=>BM _))<|Ar 1 Z<|Af 2 Z m Z fun a5 e p=>Ad<|Ay ?_
 cases h
 refine Bo (.tmp Z) (.cell Z Ajx Z AE.e (AG (i:=2) e Z)) ?_;have d:=d.mono (Aa p);exact⟨e.ext,_,Z,(e.Iq hH (i:=0) Z d)⟩
def Gg(a:List (Int×Int)):Option (Ake×(Int×Int)):=
 some (a,(0,0))
def CZ(a:Int)(b:List (Int×Int)):Option ((Ake×Int) ⊕ (Ake×(Int×Int))):=
 AN (Bz (a+1)) (some (Sum.inl (b,(a+1))))
def E7(c:List (Int×Int))(a:Int)(b:Ake):Option ((Ake×Int) ⊕ (Ake×(Int×Int))):=
 AN (Go.E.HK 16 (c.length+([((b.getD a.toNat Qq2).1,(b.getD a.toNat Qq2).2)]).length)) ((CZ a) (c++[((b.getD a.toNat Qq2).1,(b.getD a.toNat Qq2).2)]))
def Cm(a0:Int×Akc)(a1:List AaV)(d:List (Int×Int))(b:Int)(c:Ake):Int->Option ((Int) ⊕ ((Ake×Int) ⊕ (Ake×(Int×Int)))):=fun a=>
 if a<(a1.length:Int) then AN (0<=a/\a<(a1.length:Int)) (AN (Bz ((c.getD b.toNat Qq2).2+a)) (Qq4 (DD (a0.1,a0.2) (a1.getD a.toNat Qq2)) (fun e=>Qq4 (Ci e ((c.getD b.toNat Qq2).1,((c.getD b.toNat Qq2).2+a))) (fun f=>if !f then Qq7 Sum.inr ((CZ b) d) else AN (Bz (a+1)) (some (Sum.inl (a+1))))))) else Qq7 Sum.inr ((E7 d b c))
def Ie(a0:Int×Akc)(a1:List AaV)(b:List (Int×Int))(a:Int)(c:Ake)(s:Int):Option ((Ake×Int) ⊕ (Ake×(Int×Int))):=Go.L.run (Cm a0 a1 b a c) s
def CO(a0:Int×Akc)(a1:List AaV)(b:Ake):Ake×Int->Option ((Ake×Int) ⊕ (Ake×(Int×Int))):=fun⟨c,a⟩=>
 if a<(b.length:Int) then AN (0<=a/\a<(b.length:Int)) ((Ie a0 a1 c a b) (0:Int)) else Qq7 Sum.inr (Gg c)
def Ig(a0:Int×Akc)(a1:List AaV)(a:Ake)(s:Ake×Int):Option (Ake×(Int×Int)):=Go.L.run (CO a0 a1 a) s
def Gh(a0:Int×Akc)(a1:List AaV):Option (Ake×(Int×Int)):=
 AN (0<=(0:Int)/\(0:Int)<(a1.length:Int)) (Qq4 (DD (a0.1,a0.2) (a1.getD ((0:Int).toNat) Qq2)) (fun a=>(Ig a0 a1 a) (([]:List (Int×Int)),0)))
def CP(a0:Int×Akc)(a1:List AaV):Int->Option ((Int) ⊕ (Ake×(Int×Int))):=fun a=>
 if a<(a1.length:Int) then AN (0<=a/\a<(a1.length:Int)) (Qq4 (H9 (a1.getD a.toNat Qq2)) (fun b=>if b.1=0/\b.2=0 then AN (Bz (a+1)) (some (Sum.inl (a+1))) else Qq4 (DW b.1 a) (fun c=>Qq7 Sum.inr (some ([],(c.1,c.2)))))) else Qq7 Sum.inr ((Gh a0 a1))
def Ih(a0:Int×Akc)(a1:List AaV)(s:Int):Option (Ake×(Int×Int)):=Go.L.run (CP a0 a1) s
def Ef(a0:Int×Akc)(a1:List AaV):Option (Ake×(Int×Int)):=
 if(a1.length:Int)=0 then Qq4 (DW (10:Int) (-1:Int)) (fun b=>some ([],(b.1,b.2))) else(if 16<(a1.length:Int) then Qq4 (DW (2:Int) (-1:Int)) (fun a=>some ([],(a.1,a.2))) else(Ih a0 a1) (0:Int))
theorem Qh(hU:Gq H){a0:Int×Akc}{a1:List AaV}{s o:Value}(bx:AJ (.pair .st (.vec Akp)) H s (a0.2))(aa:AJ .st H o a1){r:Ake×(Int×Int)}(h:Ef a0 a1=some r):
  Qqv 146 [.agg #[No a0.1,s],o] w (fun v w'=>∃ u0,v=.tuple #[u0,.agg #[No r.2.1,No r.2.2]]/\Ck 137 Akp H w w' u0 (r.1)):=by
 refine A1 76 [(0,.agg #[No a0.1,s]),(1,o)] func146 Z fun hL=>Aj<|CD (t:=46) Z Z hL fun w1 b1 dn d8 _=>Ar 1 Z<|A9 AE.e Z dn fun w2 b2 ba d9 _=>Ad<|U3<|AB<|Bx 1 Z<|Ai (Bm aa)<|A8 1 Z<|AQ h ?_ ?_<;>intro dp h
 ·refine Aj<|Aw h fun x5 dq h=>AD ba (D5 _ _ (An ba) dq) fun w6 ey dr ea=>Ar 1 Z<|Af 0 Z dr Z fun w7 c4 eb=>Ad<|Ay<|Aq<|G6 ?_
  cases h
  refine Bo (.tmp Z) (.cell Z Ajx Z AE.e (AG (i:=0) c4 Z)) ⟨c4.ext,_,Z,Ck.nil⟩
 refine Ax<|As<|AB<|Bx 1 Z<|Ai (Bm aa)<|A8 1 Z<|AQ h ?_ ?_<;>intro ds h
 ·refine Aj<|Aw h fun ez c5 h=>AD ba (D5 _ _ (An ba) c5) fun e0 ec c6 du=>Ar 1 Z<|Af 0 Z c6 Z fun e1 bz dv=>Ad<|Ay<|Aq<|G6 ?_
  cases h
  refine Bo (.tmp Z) (.cell Z Ajx Z AE.e (AG (i:=0) bz Z)) ⟨bz.ext,_,Z,Ck.nil⟩
 refine Ax<|As<|B2 Unit (fun(_:Unit)=>[(1,o),(2,(Aad b1)),(5,(Aad b2))]) (fun(_:Unit) wr=>Bb w [.box b2 [No 0,No 0] 28,.box b1 [No a0.1,s] 46] wr/\(Gh a0 a1)=some r) ?_ ?_
 ·refine Bx 1 Z<|Ai (Bm aa)<|A8 1 Z<|A4 ?_;obtain⟨b0,h⟩:=Ba h;refine B7 (Int×Nat) (fun⟨p,n⟩=>[(1,o),(2,(Aad b1)),(5,(Aad b2)),(22,o),(23,No (a1.length:Int)),(24,No p)]) (fun⟨p,n⟩ wr=>Bb w [.box b2 [No 0,No 0] 28,.box b1 [No a0.1,s] 46] wr/\Ia (CP a0 a1) n p=some r) (fun⟨p,n⟩=>n) (0,b0) Z ⟨ba,h⟩ ?_;rintro⟨p,nn71⟩ ed ⟨ax,h⟩;obtain⟨b0,e2,rfl,h,bd⟩:=AZ h;refine AI 1 Z<|AB<|AQ h ?_ ?_<;>intro c7 h
  ·refine Ax<|As<|AB<|A4<|Bx 1 Z<|A2 h fun b3 h=>Bi aa p.toNat (GX b3) (AX b3) ?_;rintro e3 _ rfl c8;refine Ai (Bl c8 (hH.trans ax.arg))<|A8 2 Z<|Bx 1 Z<|Aw h fun e4 c9 h=>AD ax (Kc _ _ (An ax) (hU.mono  Ah) c9) fun e5 ee da dw=>A9 AE.e Z da fun e6 e7 db dx _=>Af 0 Z db Z fun e8 aq dy=>Ad<|Aj<|Ai (Az 0 Z AE.e aq Z)<|Ai (AT (fun _=>BM _))<|Ai (JO Jh (Nc _ _ _ _))<|Ad<|CX h ?_ ?_<;>intro dc h
   ·refine Aj<|Ai (Ae Z Ajx Z CR.e)<|Ai (Ag 0 Z aq Z)<|Ar 1 Z<|Aw h fun e9 dd h=>AD aq (D5 _ _ (An aq) dd) fun fa ef de dz=>Ar 1 Z<|Af 1 Z de Z fun fb b4 d0=>Ad<|Ay<|Av<|Aq<|BJ ?_;have h:=Cf.out h bd;refine Av<|Bs<|G6 ?_
    cases h
    refine Bo (.tmp Z) (.cell Z Ajx Z AE.e (AG (i:=1) b4 Z)) ⟨b4.ext,_,Z,Ck.nil⟩
   refine Ax<|A3<|As<|Au<|A2 h fun df h=>Ai (A7 df)<|Ar 1 Z<|AL ?_;have dg:=aq.AS (i:=0) Z;have h:=Cf.again h bd;refine AM (_,_) Z ⟨dg,h⟩
  refine B4<|AF<|A5 ?_;have h:=Cf.out h bd;refine Bg<|AA () ⟨ax,h⟩
 rintro _ eg ⟨dh,h⟩;refine Bx 1 Z ?_;obtain⟨b5,d1,be⟩:=DI Akp H 137 dh;refine Ad<|AB<|Abp<|As<|B2 (Ake×Value×(List Value)) (fun⟨ar,am,ac⟩=>[(5,(Aad b2)),(9,am)]) (fun⟨ar,am,ac⟩ wr=>FX w [.row am 137 2 (ar).length ac,.box b2 [No 0,No 0] 28,.box b1 [No a0.1,s] 46] wr fun Oz=>AH Akp (gz H w wr Oz) ar ac/\Gg ar=some r) ?_ ?_
 ·refine Ex (Qqz 0 4 (.q 6 (.h 4 (.q 5 (.tail 7))))) mixed Qqb (fun eh bi=>?_);have ad:=b5.call bi;have b6:=AR b5 bi;refine CB Z (Az 2 Z LN.e ad Z) Z<|D4 1 Z<|A2 h fun bj h=>HZ Z Z Z Adb aa ((0:Int).toNat) (GX bj) (AX bj) Z ?_;rintro ei _ rfl ce;refine CB Z (Bl ce (hH.trans ad.arg)) Z<|D4 1 Z<|Aw h fun c cf h=>Cj Z Z Z (fun di an=>Hn _ _ (An (ad.call an)) (bx.mono  Ah) cf) ?_;rintro di k ej an ay ⟨_,rfl,bt⟩;have az:=ad.call an;have b7:=AR ad an;have bk:=az.call ay;have b8:=AR az ay;have x:=bt.mono (Dt az ay);refine CB Z (Bm x) Z<|BT (fun ek bl=>?_);have cg:=bk.call bl;have bb:=AR bk bl;refine Ad<|A4 ?_;obtain⟨bf,h⟩:=Ba h;have be:=be.mono (Aa (b6.trans (b7.trans (b8.trans bb))));have x:=x.mono (Aa bb)
  refine B7 (Ake×Int×Value×(List Value)×Nat) (fun⟨e,a,f,d,n⟩=>[(1,o),(2,(Aad b1)),(5,(Aad b2)),(9,f),(43,k),(44,No (c.length:Int)),(45,No a)]) (fun⟨e,a,f,d,n⟩ wr=>FX w [.row f 137 2 (e).length d,.box b2 [No 0,No 0] 28,.box b1 [No a0.1,s] 46] wr fun Oz=>AJ Akp (gz H w wr Oz) k c/\AH Akp (gz H w wr Oz) e d/\Ia (CO a0 a1 c) n (e,a)=some r) (fun⟨e,a,f,d,n⟩=>n) (([]:List (Int×Int)),0,Aac,[],bf) Z ⟨cg,x,be,h⟩ ?_;rintro⟨e,a,f,d,nn294⟩ d2 ⟨a2,y,b,h⟩;obtain⟨bf,bg,rfl,h,bm⟩:=AZ h;refine AI 1 Z<|AB<|AQ h ?_ ?_<;>intro ch h
  ·refine Ax<|As<|B2 (Ake×Value×(List Value)) (fun⟨ak,ae,u⟩=>[(1,o),(2,(Aad b1)),(5,(Aad b2)),(9,ae),(43,k),(44,No (c.length:Int)),(45,No a)]) (fun⟨ak,ae,u⟩ wr=>FX w [.row ae 137 2 (ak).length u,.box b2 [No 0,No 0] 28,.box b1 [No a0.1,s] 46] wr fun Oz=>AJ Akp (gz H w wr Oz) k c/\AH Akp (gz H w wr Oz) ak u/\(CZ a) ak=some bg) ?_ ?_
   ·refine A4<|Aj<|A2 h fun bn h=>Bi y a.toNat (GX bn) (AX bn) ?_;rintro el _ ⟨_,_,rfl,rfl,rfl⟩ ci;refine Ai (Cz ci (An a2))<|A9 H7.e Z a2 fun em a3 cj au _=>Af 0 Z cj Z fun en ck av=>Ad<|B2 Unit (fun(_:Unit)=>[(1,o),(2,(Aad b1)),(5,(Aad b2)),(9,f),(11,(Aad a3)),(43,k),(44,No (c.length:Int)),(45,No a)]) (fun(_:Unit) wr=>FX w [.box a3 [No ((c.getD a.toNat Qq2).1),No ((c.getD a.toNat Qq2).2)] 137,.row f 137 2 (e).length d,.box b2 [No 0,No 0] 28,.box b1 [No a0.1,s] 46] wr fun Oz=>AJ Akp (gz H w wr Oz) k c/\AH Akp (gz H w wr Oz) e d/\(E7 e a c)=some bg) ?_ ?_
    ·refine Bx 1 Z<|Ai (Bm aa)<|A8 1 Z<|A4 ?_;obtain⟨bh,h⟩:=Ba h;have y:=y.mono (Aa (au.trans av));have b:=b.mono (Aa (au.trans av));refine B7 (Int×Nat) (fun⟨g,n⟩=>[(1,o),(2,(Aad b1)),(5,(Aad b2)),(9,f),(11,(Aad a3)),(43,k),(44,No (c.length:Int)),(45,No a),(49,o),(50,No (a1.length:Int)),(51,No g)]) (fun⟨g,n⟩ wr=>FX w [.box a3 [No ((c.getD a.toNat Qq2).1),No ((c.getD a.toNat Qq2).2)] 137,.row f 137 2 (e).length d,.box b2 [No 0,No 0] 28,.box b1 [No a0.1,s] 46] wr fun Oz=>AJ Akp (gz H w wr Oz) k c/\AH Akp (gz H w wr Oz) e d/\Ia (Cm a0 a1 e a c) n g=some bg) (fun⟨g,n⟩=>n) (0,bh) Z ⟨ck,y,b,h⟩ ?_;rintro⟨g,nn425⟩ d3 ⟨ao,j,b,h⟩;obtain⟨bh,eo,rfl,h,a4⟩:=AZ h;refine AI 1 Z<|AB<|AQ h ?_ ?_<;>intro cl h
     ·refine Ax<|As<|AB<|A4<|Bx 1 Z<|A2 h fun bo h=>Bi aa g.toNat (GX bo) (AX bo) ?_;rintro ep _ rfl cm;refine Ai (Bl cm (hH.trans ao.arg))<|A8 2 Z<|Ex (.q 0 (.q 1 (Qqz 3 7 (.h 2 (.q 10 (.q 11 (.tail 12))))))) mixed Qqb (fun eq bp=>?_);have z:=ao.call bp;have af:=AR ao bp;refine CB Z (Az 3 Z LN.e z Z) Z<|D4 1 Z<|CB Z (Ae Z Aj7 Z CR.e) Z<|CB Z (Ag 0 Z z Z) Z<|CB Z (Ae Z Aj7 Z CR.e) Z<|CB Z (Ag 0 Z z Z) Z<|D4 1 Z<|A2 h fun cn h=>CB Z (A7 cn) Z<|CB Z (AT (fun _=>Vu _ _ _)) Z<|Aw h fun er co h=>Cj Z Z Z (fun dj ap=>Hn _ _ (An (z.call ap)) (bx.mono  Ah) co) ?_;rintro dj dt dk ap a5 ⟨_,rfl,bu⟩;have a6:=z.call ap;have ag:=AR z ap;have a7:=a6.call a5;have ah:=AR a6 a5;have bv:=bu.mono (Dt a6 a5)
      refine Aw h fun es cp h=>?_;have b9:=(fun(ca:World) (cq:Ext dk ca)=>Lv ca _ (Le.refl _) ((bv.mono (An a7)).mono cq.le) cp);refine JN Z Z Z b9<|D4 1 Z<|BT (fun et bq=>?_);have br:=a7.call bq;have ai:=AR a7 bq;refine Ad<|B8 h ?_ ?_<;>intro cr h
      ·refine B4<|Mx<|AF<|A5 ?_;have h:=Cf.out h a4;refine Mx<|Qp<|Bg ?_;have cs:=br.AS (i:=0) Z;have j:=j.mono (Aa (af.trans (ag.trans (ah.trans (ai.trans (Ak (i:=0) Z))))));have b:=b.mono (Aa (af.trans (ag.trans (ah.trans (ai.trans (Ak (i:=0) Z))))));refine AA (_,_,_) ⟨cs,j,b,h⟩
      refine Ax<|A3<|As<|Au<|A2 h fun ct h=>Ai (A7 ct)<|Ar 1 Z<|AL ?_;have h:=Cf.again h a4;have j:=j.mono (Aa (af.trans (ag.trans (ah.trans ai))));have b:=b.mono (Aa (af.trans (ag.trans (ah.trans ai))));refine AM (_,_) Z ⟨br,j,b,h⟩
     refine B4<|AF<|A5 ?_;have h:=Cf.out h a4;refine Bg<|AA () ⟨ao,j,b,h⟩
    have b:=b.mono (Aa (au.trans av));rintro _ d4 ⟨bs,al,b,h⟩;refine Au<|Ar 1 Z<|Ai (Az 0 Z H7.e bs Z)<|B9 [((c.getD a.toNat Qq2).1,(c.getD a.toNat Qq2).2)] (r:=Akp) (fun _=>YX _ _ _) bs (.c2 ⟨_,_,Z,Z,Z⟩ .nil) fun eu ev d5 cu bc cv=>A2 h fun cw h=>?_;have b:=b.mono (Aa bc);refine Bt (r:=Akp) 1 e [((c.getD a.toNat Qq2).1,(c.getD a.toNat Qq2).2)] Z Aj5 cu Z b cv cw fun dl ew cx cy cb a8=>Ar 1 Z<|AL<|A3 ?_;have cz:=cy.AS (i:=0) Z;have al:=al.mono (Aa (bc.trans (cb.trans (Ak (i:=0) Z))));have a8:=a8.mono (Aa (Ak (i:=0) Z));refine AA (_,_,_) ⟨cz,al,a8,h⟩
   rintro⟨ak,ae,u⟩ d6 ⟨c0,bw,cc,h⟩;refine Au<|A2 h fun c1 h=>Ai (A7 c1)<|Ar 1 Z<|AL ?_;have h:=Cf.again h bm;refine AM (_,_,_,_,_) Z ⟨c0,bw,cc,h⟩
  refine B4<|AF<|A5 ?_;have h:=Cf.out h bm;refine Bg<|AA (_,_,_) ⟨a2,b,h⟩
 rintro⟨ar,am,ac⟩ d7 ⟨c3,aw,h⟩;refine Bx 1 Z<|Ai (AT (fun _=>BM _))<|Ar 1 Z<|Af 1 Z c3 Z fun ex a9 cd=>Ad<|Ay<|G6 ?_
 cases h
 refine Bo (.tmp Z) (.cell Z Ajx Z AE.e (AG (i:=1) a9 Z)) ?_;have aw:=aw.mono (Aa cd);exact⟨a9.ext,_,Z,(a9.Iq hH (i:=0) Z aw)⟩
end
def EX(a0:Int×Int)(a1:Int×Int)(a2:Int):Option (Bool×(Int×Int)×Int):=
 AN (Bz (a1.2 - a0.2)) (AN (Bz (a0.2 - a1.2)) (if(a1.1=a0.1)/\(0<(max (a1.2 - a0.2) (a0.2 - a1.2))) then some (decide ((max (a1.2 - a0.2) (a0.2 - a1.2))<=a2),(a1.1,a1.2),a2) else some (false,(a1.1,a1.2),a2)))
theorem Qi{d w:World}{H:PH}(_hH:Le H (hp d)){O:List BS}{a0 a1:Int×Int}{a2:Int}{ba1 ba2:Nat}(hL:Bb d (Ha [.box ba1 [No a1.1,No a1.2] 137,.box ba2 [No a2] 3] O) w){r:Bool×(Int×Int)×Int}(h:EX a0 a1 a2=some r):
  Ok prog 197 [.agg #[No a0.1,No a0.2],Aad ba1,Aad ba2] w (fun v w'=>v=.bool r.1/\Bb d (Ha [.box ba1 [No r.2.1.1,No r.2.1.2] 137,.box ba2 [No r.2.2] 3] O) w'/\Le (fz w (Ha [.box ba1 [No a1.1,No a1.2] 137,.box ba2 [No a2] 3] O)) (fz w' (Ha [.box ba1 [No r.2.1.1,No r.2.1.2] 137,.box ba2 [No r.2.2] 3] O))):=by
 refine Ds (n:=31) [(0,.agg #[No a0.1,No a0.2]),(1,(Aad ba1)),(2,(Aad ba2))] func197 Z Z Z Z ?_;have hT:=Le.refl (fz w (Ha [.box ba1 [No a1.1,No a1.2] 137,.box ba2 [No a2] 3] O));refine Aj<|CD (t:=137) Z Z hL fun k l a c _=>A8 1 Z<|Aj<|Ai (Ae Z Aj7 Z CR.e)<|Ai (Ag 1 Z a Z)<|Ai (Ae Z Aj7 Z CR.e)<|Ai (Ag 0 Z a Z)<|A2 h fun e h=>Ai (A7 e)<|Ai (Ae Z Aj7 Z CR.e)<|Ai (Ag 0 Z a Z)<|Ai (Ae Z Aj7 Z CR.e)<|Ai (Ag 1 Z a Z)<|A2 h fun f h=>Ai (A7 f)<|Ai (Adu Z Z)<|A8 1 Z<|Aj<|Ai (Ae Z Aj7 Z CR.e)<|Ai (Ag 1 Z a Z)<|Ai (Ae Z Aj7 Z CR.e)<|Ai (Ag 0 Z a Z)<|Ar 2 Z ?_;refine OM 2 5 Z Z Z Z Z Z<|Ar 1 Z<|CI 26 h ?_ ?_<;>intro b h
 ·refine Ab b<|Ai (Am Z)<|Ab b<|Ai (Ag 2 Z a Z)<|Ab b<|Ai (Am Z)<|Ai (AK b Z)<|A8 1 Z<|Ay ?_
  cases h
  refine Al Z ?_;have g:=a.AS (i:=0) Z;have hT:=hT.trans (c.trans (Ak (i:=0) Z));exact⟨Z,g,hT⟩
 iterate 3 refine Ao b ?_
 refine Ai (AO b Z)<|A8 1 Z<|Ay ?_
 cases h
 refine Al Z ?_;have j:=a.AS (i:=0) Z;have hT:=hT.trans (c.trans (Ak (i:=0) Z));exact⟨Z,j,hT⟩
def Cs(a b c:Int):Option (Int×(Int×Int)×Int):=
 some ((-1),(a,b),c)
def Bq(a0:List (Int×Int)):Int×Int×Int×Int->Option ((Int×Int×Int×Int) ⊕ (Int×(Int×Int)×Int)):=fun⟨c,d,e,a⟩=>
 if a<(a0.length:Int) then AN (0<=a/\a<(a0.length:Int)) (Qq4 (EX ((a0.getD a.toNat Qq2).1,(a0.getD a.toNat Qq2).2) (c,d) e) (fun b=>if b.1 then Qq7 Sum.inr (some (a,(b.2.1.1,b.2.1.2),b.2.2)) else AN (Bz (a+1)) (some (Sum.inl (b.2.1.1,b.2.1.2,b.2.2,(a+1)))))) else Qq7 Sum.inr (Cs c d e)
def Dq(a0:List (Int×Int))(s:Int×Int×Int×Int):Option (Int×(Int×Int)×Int):=Go.L.run (Bq a0) s
def CQ(a0:List (Int×Int))(a1_c0:Int×Int)(a1_c1:Int):Option (Int×(Int×Int)×Int):=
 (Dq a0) (a1_c0.1,a1_c0.2,a1_c1,0)
theorem KT{g w:World}{H:PH}(hH:Le H (hp g)){O:List BS}{a0:List (Int×Int)}{a1_c0:Int×Int}{a1_c1:Int}{va0:Value}{ba1_c0 ba1_c1:Nat}(hL:Bb g (Ha [.box ba1_c0 [No a1_c0.1,No a1_c0.2] 137,.box ba1_c1 [No a1_c1] 3] O) w)(t:AJ Akp (gz H g w (Ha [.box ba1_c0 [No a1_c0.1,No a1_c0.2] 137,.box ba1_c1 [No a1_c1] 3] O)) va0 a0){r:Int×(Int×Int)×Int}(h:CQ a0 a1_c0 a1_c1=some r):
  Ok prog 254 [va0,.func (.func 197) #[] #[Aad ba1_c0,Aad ba1_c1]] w (fun v w'=>v=No r.1/\Bb g (Ha [.box ba1_c0 [No r.2.1.1,No r.2.1.2] 137,.box ba1_c1 [No r.2.2] 3] O) w'/\Le (fz w (Ha [.box ba1_c0 [No a1_c0.1,No a1_c0.2] 137,.box ba1_c1 [No a1_c1] 3] O)) (fz w' (Ha [.box ba1_c0 [No r.2.1.1,No r.2.1.2] 137,.box ba1_c1 [No r.2.2] 3] O))):=by
 refine Ds (n:=19) [(0,va0),(1,.func (.func 197) #[] #[Aad ba1_c0,Aad ba1_c1])] func254 Z Z Z Z ?_;have hT:=Le.refl (fz w (Ha [.box ba1_c0 [No a1_c0.1,No a1_c0.2] 137,.box ba1_c1 [No a1_c1] 3] O));refine AI 1 Z<|B2 (Int×Int×Int) (fun⟨k,l,m⟩=>[]) (fun⟨k,l,m⟩ wr=>FX g (Ha [.box ba1_c0 [No k,No l] 137,.box ba1_c1 [No m] 3] O) wr fun Oz=>Le (fz w (Ha [.box ba1_c0 [No a1_c0.1,No a1_c0.2] 137,.box ba1_c1 [No a1_c1] 3] O)) (fz wr Oz)/\Cs k l m=some r) ?_ ?_
 ·refine Bx 1 Z<|Ai (Bm t)<|A8 1 Z<|A4 ?_;obtain⟨o,h⟩:=Ba h;refine B7 (Int×Int×Int×Int×Nat) (fun⟨c,d,e,a,n⟩=>[(0,va0),(1,.func (.func 197) #[] #[Aad ba1_c0,Aad ba1_c1]),(7,No (a0.length:Int)),(8,No a)]) (fun⟨c,d,e,a,n⟩ wr=>FX g (Ha [.box ba1_c0 [No c,No d] 137,.box ba1_c1 [No e] 3] O) wr fun Oz=>AJ Akp (gz H g wr Oz) va0 a0/\Le (fz w (Ha [.box ba1_c0 [No a1_c0.1,No a1_c0.2] 137,.box ba1_c1 [No a1_c1] 3] O)) (fz wr Oz)/\Ia (Bq a0) n (c,d,e,a)=some r) (fun⟨c,d,e,a,n⟩=>n) (a1_c0.1,a1_c0.2,a1_c1,0,o) Z ⟨hL,t,hT,h⟩ ?_;rintro⟨c,d,e,a,nn51⟩ ac ⟨i,b,hT,h⟩;obtain⟨o,ae,rfl,h,j⟩:=AZ h;refine AI 1 Z<|AB<|AQ h ?_ ?_<;>intro u h
  ·refine Ax<|As<|AB<|A4<|AI 2 Z<|Bx 3 Z<|A2 h fun p h=>Bi b a.toNat (GX p) (AX p) ?_;rintro af _ ⟨_,_,rfl,rfl,rfl⟩ x;refine Ai (Cz x (An i))<|Aw h fun q y h=>Fl Z Z (Qi (a0:=((a0.getD a.toNat Qq2).1,(a0.getD a.toNat Qq2).2)) (a1:=(c,d)) (a2:=e) (O:=(Ha [] O)) hH i y) ?_;rintro _ ag ⟨rfl,s,f⟩;refine Ad<|B8 h ?_ ?_<;>intro z h
   ·refine AI 2 Z<|Ay<|Av<|Aq<|BJ ?_;have h:=Cf.out h j;refine Av<|Bs ?_
    cases h
    refine Al Z ?_;have hT:=hT.trans f;exact⟨Z,s,hT⟩
   refine Ax<|A3<|As<|Au<|A2 h fun aa h=>Ai (A7 aa)<|Ar 1 Z<|AL ?_;have h:=Cf.again h j;have b:=b.mono (Aa f);have hT:=hT.trans f;refine AM (_,_,_,_,_) Z ⟨s,b,hT,h⟩
  refine B4<|AF<|A5 ?_;have h:=Cf.out h j;refine Bg<|AA (_,_,_) ⟨i,hT,h⟩
 rintro⟨k,l,m⟩ ad ⟨ab,hT,h⟩;refine AI 1 Z<|Ay ?_
 cases h
 refine Al Z ⟨Z,ab,hT⟩
def BH(a0:List (Int×Int))(a1_c0:Int×Int)(a1_c1:Int):Option (Bool×(Int×Int)×Int):=
 Qq4 (CQ a0 (a1_c0.1,a1_c0.2) a1_c1) (fun a=>some (decide (0<=a.1),(a.2.1.1,a.2.1.2),a.2.2))
theorem Kf{a w:World}{H:PH}(hH:Le H (hp a)){O:List BS}{a0:List (Int×Int)}{a1_c0:Int×Int}{a1_c1:Int}{va0:Value}{ba1_c0 ba1_c1:Nat}(hL:Bb a (Ha [.box ba1_c0 [No a1_c0.1,No a1_c0.2] 137,.box ba1_c1 [No a1_c1] 3] O) w)(c:AJ Akp (gz H a w (Ha [.box ba1_c0 [No a1_c0.1,No a1_c0.2] 137,.box ba1_c1 [No a1_c1] 3] O)) va0 a0){r:Bool×(Int×Int)×Int}(h:BH a0 a1_c0 a1_c1=some r):
  Ok prog 196 [va0,.func (.func 197) #[] #[Aad ba1_c0,Aad ba1_c1]] w (fun v w'=>v=.bool r.1/\Bb a (Ha [.box ba1_c0 [No r.2.1.1,No r.2.1.2] 137,.box ba1_c1 [No r.2.2] 3] O) w'/\Le (fz w (Ha [.box ba1_c0 [No a1_c0.1,No a1_c0.2] 137,.box ba1_c1 [No a1_c1] 3] O)) (fz w' (Ha [.box ba1_c0 [No r.2.1.1,No r.2.1.2] 137,.box ba1_c1 [No r.2.2] 3] O))):=by
 refine Ds (n:=9) [(0,va0),(1,.func (.func 197) #[] #[Aad ba1_c0,Aad ba1_c1])] func196 Z Z Z Z ?_;have hT:=Le.refl (fz w (Ha [.box ba1_c0 [No a1_c0.1,No a1_c0.2] 137,.box ba1_c1 [No a1_c1] 3] O));refine AI 1 Z<|Bx 2 Z<|Aw h fun f d h=>ES (KT (a0:=a0) (a1_c0:=(a1_c0.1,a1_c0.2)) (a1_c1:=a1_c1) (O:=(Ha [] O)) hH hL c d) ?_;rintro _ g ⟨rfl,e,b⟩;refine A8 2 Z<|Ay ?_
 cases h
 refine Al Z ?_;have hT:=hT.trans b;exact⟨Z,e,hT⟩
def Ho(a:List Int)(_c100:Int):Option Akj:=
 some (a,(0,0))
def Dx(a0:Int×Akc)(a2:AaV)(d:Ake):(List Int)×Int×Int->Option (Akm ⊕ Akj):=fun⟨c,e,a⟩=>
 if a<(d.length:Int) then AN (0<=a/\a<(d.length:Int)) (Qq4 (DD (a0.1,a0.2) a2) (fun f=>Qq4 (BH f ((d.getD a.toNat Qq2).1,(d.getD a.toNat Qq2).2) e) (fun b=>if b.1 then Qq4 (BD c b.2.1.1) (fun g=>if !g then AN (Go.E.HK 8 (c.length+([b.2.1.1]).length)) (AN (Bz (a+1)) (some (Sum.inl ((c++[b.2.1.1]),b.2.2,(a+1))))) else AN (Bz (a+1)) (some (Sum.inl (c,b.2.2,(a+1))))) else AN (Bz (a+1)) (some (Sum.inl (c,b.2.2,(a+1))))))) else Qq7 Sum.inr (Ho c e)
def K8(a0:Int×Akc)(a2:AaV)(a:Ake)(s:(List Int)×Int×Int):Option Akj:=Go.L.run (Dx a0 a2 a) s
def Ff(a0:Int×Akc)(a1:AaV)(a2:AaV)(a3:Int):Option Akj:=
 Qq4 (H9 a1) (fun b=>if b.1=0/\b.2=0 then Qq4 (H9 a2) (fun a=>if a.1=0/\a.2=0 then(if a3<1 then Qq4 (DW (4:Int) (-3:Int)) (fun c=>some ([],(c.1,c.2))) else if 2048<a3 then Qq4 (DW (4:Int) (-3:Int)) (fun d=>some ([],(d.1,d.2))) else Qq4 (DD (a0.1,a0.2) a1) (fun f=>(K8 a0 a2 f) (([]:List Int),a3,0))) else Qq4 (DW a.1 (-2:Int)) (fun e=>some ([],(e.1,e.2)))) else some ([],(b.1,b.2)))
section
variable(w:World)(H:PH)(hH:Le H (hp w)) include hH
theorem Rz(hU:Gq H){a0:Int×Akc}{a1 a2:AaV}{a3:Int}{k:Value}(bw:AJ (.pair .st (.vec Akp)) H k (a0.2)){r:(List Int)×(Int×Int)}(h:Ff a0 a1 a2 a3=some r):
  Qqv 147 [.agg #[No a0.1,k],AaM a1,AaM a2,No a3] w (fun v w'=>∃ u0,v=.tuple #[u0,.agg #[No r.2.1,No r.2.2]]/\Ck 3 (.int .i64) H w w' u0 (r.1)):=by
 refine A1 66 [(0,.agg #[No a0.1,k]),(1,(AaM a1)),(2,(AaM a2)),(3,No a3)] func147 Z fun hL=>Aj<|CD (t:=46) Z Z hL fun w1 b1 dg d3 _=>Q1 (t:=3) Z Z dg fun w2 b2 dh d4 _=>Ar 1 Z<|A9 AE.e Z dh fun w3 b3 cw d5 _=>Ad<|AB<|Bx 1 Z<|Aw h fun s di h=>AD cw (Kc _ _ (An cw) (hU.mono  Ah) di) fun w5 em dj d6=>A9 AE.e Z dj fun w6 b6 dk d7 _=>Af 0 Z dk Z fun w7 bk d8=>Ad<|Aj<|Ai (Az 0 Z AE.e bk Z)<|Ai (AT (fun _=>BM _))<|Ai (JO Jh (Nc _ _ _ _))<|Ad<|CX h ?_ ?_<;>intro dl h
 ·refine Ex (.q 0 (.q 1 (.tail 2))) mixed Qqb (fun en cx=>?_);have bx:=bk.call cx;refine CB Z (Az 0 Z AE.e bx Z) Z<|D4 1 Z<|BT (fun eo cy=>?_);have cz:=bx.call cy;refine Af 1 Z cz Z fun ep bz dn=>Ad<|Ay<|Aq ?_
  cases h
  refine Bo (.tmp Z) (.cell Z Ajx Z AE.e (AG (i:=1) bz Z)) ⟨bz.ext,_,Z,Ck.nil⟩
 refine Ax<|As<|AB<|Bx 1 Z<|Aw h fun g c0 h=>AD bk (Kc _ _ (An bk) (hU.mono  Ah) c0) fun eq d9 c2 dp=>A9 AE.e Z c2 fun er ac c3 dq _=>Af 0 Z c3 Z fun es p dr=>Ad<|Aj<|Ai (Az 0 Z AE.e p Z)<|Ai (AT (fun _=>BM _))<|Ai (JO Jh (Nc _ _ _ _))<|Ad<|CX h ?_ ?_<;>intro c4 h
 ·refine Aj<|Ai (Ae Z Ajx Z CR.e)<|Ai (Ag 0 Z p Z)<|Aw h fun et c5 h=>AD p (D5 _ _ (An p) c5) fun eu ea c6 ds=>Ar 1 Z<|Af 2 Z c6 Z fun ev b0 dt=>Ad<|Ay<|Aq ?_
  cases h
  refine Bo (.tmp Z) (.cell Z Ajx Z AE.e (AG (i:=2) b0 Z)) ⟨b0.ext,_,Z,Ck.nil⟩
 refine Ax<|As<|AB<|Aj<|Ai (Ag 3 Z p Z)<|Ar 2 Z<|CI 32 h ?_ ?_<;>intro af h
 ·iterate 2 refine Ao af ?_
  refine Ai (AK af Z)<|Ad<|Fq<|Aj<|Aw h fun ew c7 h=>AD p (D5 _ _ (An p) c7) fun ex eb c8 du=>Ar 1 Z<|Af 2 Z c8 Z fun ey b4 dv=>Ad<|Ay<|Aq ?_
  cases h
  refine Bo (.tmp Z) (.cell Z Ajx Z AE.e (AG (i:=2) b4 Z)) ⟨b4.ext,_,Z,Ck.nil⟩
 refine Ab af<|Ai (Ag 3 Z p Z)<|Ab af<|Ai (Am Z)<|Ai (AO af Z)<|Ad<|AQ h ?_ ?_<;>intro c9 h
 ·refine Aj<|Aw h fun ez da h=>AD p (D5 _ _ (An p) da) fun e0 ec db dw=>Ar 1 Z<|Af 2 Z db Z fun e1 b5 dx=>Ad<|Ay<|Aq ?_
  cases h
  refine Bo (.tmp Z) (.cell Z Ajx Z AE.e (AG (i:=2) b5 Z)) ⟨b5.ext,_,Z,Ck.nil⟩
 refine Ax<|As<|Bx 1 Z ?_;obtain⟨ar,dy,bi⟩:=DI (.int .i64) H 3 p;refine Ad<|B2 ((List Int)×Int×Value×(List Value)) (fun⟨a9,au,av,ai⟩=>[(9,(Aad b3)),(12,av)]) (fun⟨a9,au,av,ai⟩ wr=>FX w [.row av 3 1 (a9).length ai,.box ac [No g.1,No g.2] 28,.box b6 [No s.1,No s.2] 28,.box b3 [No 0,No 0] 28,.box b2 [No au] 3,.box b1 [No a0.1,k] 46] wr fun Oz=>AH (.int .i64) (gz H w wr Oz) a9 ai/\Ho a9 au=some r) ?_ ?_
 ·refine Aj<|Ai (Az 5 Z LN.e ar Z)<|Ar 1 Z<|Aw h fun ad cd h=>Bf ar (Hn (a0:=(a0.1,a0.2)) _ _ (An ar) (bw.mono  Ah) cd) ?_;rintro ba ed ⟨_,rfl,bu⟩ ce cf b7;have aq:=bu.mono (Dt ar ce);refine Ai (Bm aq)<|A8 1 Z<|A4 ?_;obtain⟨an,h⟩:=Ba h;have bi:=bi.mono (Aa b7)
  refine B7 ((List Int)×Int×Int×Value×(List Value)×Nat) (fun⟨d,x,a,f,b,n⟩=>[(2,(AaM a2)),(4,(Aad b1)),(7,(Aad b2)),(9,(Aad b3)),(12,f),(39,ba),(40,No (ad.length:Int)),(41,No a)]) (fun⟨d,x,a,f,b,n⟩ wr=>FX w [.row f 3 1 (d).length b,.box ac [No g.1,No g.2] 28,.box b6 [No s.1,No s.2] 28,.box b3 [No 0,No 0] 28,.box b2 [No x] 3,.box b1 [No a0.1,k] 46] wr fun Oz=>AJ Akp (gz H w wr Oz) ba ad/\AH (.int .i64) (gz H w wr Oz) d b/\Ia (Dx a0 a2 ad) n (d,x,a)=some r) (fun⟨d,x,a,f,b,n⟩=>n) (([]:List Int),a3,0,Aac,[],an) Z ⟨cf,aq,bi,h⟩ ?_;rintro⟨d,x,a,f,b,nn135⟩ dz ⟨aw,e,c,h⟩;obtain⟨an,ee,rfl,h,aj⟩:=AZ h;refine AI 1 Z<|AB<|AQ h ?_ ?_<;>intro cg h
  ·refine Ax<|As<|AB<|A4<|Aj<|A2 h fun bl h=>Bi e a.toNat (GX bl) (AX bl) ?_;rintro ef _ ⟨_,_,rfl,rfl,rfl⟩ ch;refine Ai (Cz ch (An aw))<|A9 H7.e Z aw fun eg dc ci y _=>Af 0 Z ci Z fun eh ak z=>Ad<|Aj<|Ai (Az 6 Z LN.e ak Z)<|Ar 1 Z<|Aw h fun dd cj h=>Bf ak (Hn (a0:=(a0.1,a0.2)) _ _ (An ak) (bw.mono  Ah) cj) ?_;rintro dm de ⟨_,rfl,bv⟩ ck bm aa;have ag:=bv.mono (Dt ak ck);refine Ar 1 Z ?_;have bn:Bb w [.box dc [No ((ad.getD a.toNat Qq2).1),No ((ad.getD a.toNat Qq2).2)] 137,.box b2 [No x] 3,.row f 3 1 (d).length b,.box ac [No g.1,No g.2] 28,.box b6 [No s.1,No s.2] 28,.box b3 [No 0,No 0] 28,.box b1 [No a0.1,k] 46] de:=bm.C1 [5,1] Z;have u:=B3 [5,1] bm bn Z;refine Aw h fun j cl h=>?_;have ag:=ag.mono (Aa u)
   refine ES (Kf (a0:=dd) (a1_c0:=((ad.getD a.toNat Qq2).1,(ad.getD a.toNat Qq2).2)) (a1_c1:=x) (O:=[.row f 3 1 (d).length b,.box ac [No g.1,No g.2] 28,.box b6 [No s.1,No s.2] 28,.box b3 [No 0,No 0] 28,.box b1 [No a0.1,k] 46]) hH bn ag cl) ?_;rintro _ b8 ⟨rfl,al,ab⟩;refine A8 1 Z<|Bx 2 Z<|Fs 51 h ?_ ?_<;>intro o h
   ·refine Ab o<|Ai (Am Z)<|Ab o<|Ai (Ae Z Aj7 Z CR.e)<|Ab o<|Ai (Ag 0 Z al Z)<|Ab o<|Aw h fun ei cm h=>?_;have c:=c.mono (Aa (y.trans (z.trans (aa.trans (u.trans ab)))));refine AD al (HR _ _ (Le.refl _) (al.RU hH (i:=2) Z c) cm) fun b9 d0 ax ae=>Ab o<|Ai (Am Z)<|Ai (AK o Z)<|Ad<|B8 h ?_ ?_<;>intro cn h
    ·refine Au<|Ar 1 Z<|Ai (Ae Z Aj7 Z CR.e)<|Ai (Ag 0 Z ax Z)<|B9 [j.2.1.1] (r:=(.int .i64)) (fun _=>Jn _ _) ax (.c1 Z .nil) fun ej ek d1 co bb cp=>A2 h fun cq h=>?_;have c:=c.mono (Aa (ae.trans bb));refine Bt (r:=(.int .i64)) 2 d [j.2.1.1] Z AhD co Z c cp cq fun bj ca ay cr cb az=>Ar 1 Z<|AL<|A3<|As<|Au<|A2 h fun cs h=>Ai (A7 cs)<|Ar 1 Z<|AL ?_;have bo:=cr.AS (i:=0) Z;have a4:Bb w [.box b6 [No s.1,No s.2] 28,.box b3 [No 0,No 0] 28,.box b2 [No j.2.2] 3,.row bj 3 1 ((d++[j.2.1.1])).length ay,.box ac [No g.1,No g.2] 28,.box b1 [No a0.1,k] 46] ca:=bo.C1 [4,4] Z;have bc:=B3 [4,4] bo a4 Z
     have bp:Bb w [.row bj 3 1 ((d++[j.2.1.1])).length ay,.box ac [No g.1,No g.2] 28,.box b6 [No s.1,No s.2] 28,.box b3 [No 0,No 0] 28,.box b2 [No j.2.2] 3,.box b1 [No a0.1,k] 46] ca:=a4.C1 [4,4] Z;have bd:=B3 [4,4] a4 bp Z;have h:=Cf.again h aj;have e:=e.mono (Aa (y.trans (z.trans (aa.trans (u.trans (ab.trans (ae.trans (bb.trans (cb.trans ((Ak (i:=0) Z).trans (bc.trans bd)))))))))));have az:=az.mono (Aa ((Ak (i:=0) Z).trans (bc.trans bd)));refine AM ((d++[j.2.1.1]),j.2.2,(a+1),bj,ay,an) Z ⟨bp,e,az,h⟩
    refine Ax<|A3<|As<|Au<|A2 h fun ct h=>Ai (A7 ct)<|Ar 1 Z<|AL ?_;have bq:=ax.AS (i:=0) Z;have a5:Bb w [.box b6 [No s.1,No s.2] 28,.box b3 [No 0,No 0] 28,.box b2 [No j.2.2] 3,.row f 3 1 (d).length b,.box ac [No g.1,No g.2] 28,.box b1 [No a0.1,k] 46] b9:=bq.C1 [4,4] Z;have be:=B3 [4,4] bq a5 Z;have br:Bb w [.row f 3 1 (d).length b,.box ac [No g.1,No g.2] 28,.box b6 [No s.1,No s.2] 28,.box b3 [No 0,No 0] 28,.box b2 [No j.2.2] 3,.box b1 [No a0.1,k] 46] b9:=a5.C1 [4,4] Z;have bf:=B3 [4,4] a5 br Z;have h:=Cf.again h aj;have e:=e.mono (Aa (y.trans (z.trans (aa.trans (u.trans (ab.trans (ae.trans ((Ak (i:=0) Z).trans (be.trans bf)))))))));have c:=c.mono (Aa (ae.trans ((Ak (i:=0) Z).trans (be.trans bf))));refine AM (d,j.2.2,(a+1),f,b,an) Z ⟨br,e,c,h⟩
   iterate 5 refine Ao o ?_
   refine Ai (AO o Z)<|Ad<|G5<|Ax<|A3<|As<|Au<|A2 h fun cu h=>Ai (A7 cu)<|Ar 1 Z<|AL ?_;have bs:=al.AS (i:=0) Z;have a6:Bb w [.box b6 [No s.1,No s.2] 28,.box b3 [No 0,No 0] 28,.box b2 [No j.2.2] 3,.row f 3 1 (d).length b,.box ac [No g.1,No g.2] 28,.box b1 [No a0.1,k] 46] b8:=bs.C1 [4,4] Z;have bg:=B3 [4,4] bs a6 Z;have bt:Bb w [.row f 3 1 (d).length b,.box ac [No g.1,No g.2] 28,.box b6 [No s.1,No s.2] 28,.box b3 [No 0,No 0] 28,.box b2 [No j.2.2] 3,.box b1 [No a0.1,k] 46] b8:=a6.C1 [4,4] Z;have bh:=B3 [4,4] a6 bt Z;have h:=Cf.again h aj;have e:=e.mono (Aa (y.trans (z.trans (aa.trans (u.trans (ab.trans ((Ak (i:=0) Z).trans (bg.trans bh))))))));have c:=c.mono (Aa (y.trans (z.trans (aa.trans (u.trans (ab.trans ((Ak (i:=0) Z).trans (bg.trans bh))))))))
   refine AM (d,j.2.2,(a+1),f,b,an) Z ⟨bt,e,c,h⟩
  refine B4<|AF<|A5 ?_;have h:=Cf.out h aj;refine Bg<|AA (_,_,_,_) ⟨aw,c,h⟩
 rintro⟨a9,au,av,ai⟩ d2 ⟨cv,a7,h⟩;refine Bx 1 Z<|Ai (AT (fun _=>BM _))<|Ar 1 Z<|Af 3 Z cv Z fun el a8 cc=>Ad<|Ay ?_
 cases h
 refine Bo (.tmp Z) (.cell Z Ajx Z AE.e (AG (i:=3) a8 Z)) ?_;have a7:=a7.mono (Aa cc);exact⟨a8.ext,_,Z,(a8.Iq hH (i:=0) Z a7)⟩
def Cn(a0 a1:Int):Option ((Int×Int)):=
 some ((a0,a1))
theorem CE{a0 a1:Int}{r:(Int×Int)}(h:Cn a0 a1=some r):
  Qqv 34 [No a0,No a1] w (fun v w'=>v=.agg #[No r.1,No r.2]):=by
 refine A1 8 [(0,No a0),(1,No a1)] func34 Z fun hL=>Aj<|A9 AE.e Z hL fun e f b c _=>Ad<|Bx 2 Z<|Ai (AT (fun _=>M6 _ _ _))<|Af 0 Z b Z fun g a d=>Ad<|Ay ?_
 cases h
 refine Dz (.cell Z Ajx Z AE.e (AG (i:=0) a Z)) ⟨a.ext,Z⟩
def GA(a0:Int):Option Bool:=
 some (decide ((1<=a0)/\(a0<=7)))
theorem ME{a0:Int}{r:Bool}(h:GA a0=some r):
  Qqv 90 [No a0] w (fun v w'=>v=.bool r):=by
 refine A1 9 [(0,No a0)] func90 Z fun hL=>AI 1 Z<|Bx 3 Z<|OM 2 2 Z Z Z Z Z Z<|A8 1 Z<|Ay ?_
 cases h
 refine Al Z ⟨hL.ext,Z⟩
end
def J2(a0:Qv)(a1:Qv):Option (Bool×Qv):=
 some (decide (a0.f.1=a1.f.1),a1)
theorem RZ{a w:World}{H:PH}(hH:Le H (hp a)){O:List BS}{a0 a1:Qv}{va0_1 va0_3 va0_6:Value}{ba1:Nat}{va1_1 va1_3 va1_6:Value}(hL:Bb a (Ha [.box ba1 [No a1.f.1,va1_1,AaM a1.f.2.2.1,va1_3,No a1.f.2.2.2.2.1,No a1.f.2.2.2.2.2.1,va1_6] 26] O) w)(_ha0_1:AJ .st (gz H a w (Ha [.box ba1 [No a1.f.1,va1_1,AaM a1.f.2.2.1,va1_3,No a1.f.2.2.2.2.1,No a1.f.2.2.2.2.2.1,va1_6] 26] O)) va0_1 (a0.f.2.1))(_ha0_3:AJ .byte (gz H a w (Ha [.box ba1 [No a1.f.1,va1_1,AaM a1.f.2.2.1,va1_3,No a1.f.2.2.2.2.1,No a1.f.2.2.2.2.2.1,va1_6] 26] O)) va0_3 (a0.f.2.2.2.1))(_ha0_6:AJ .Bu (gz H a w (Ha [.box ba1 [No a1.f.1,va1_1,AaM a1.f.2.2.1,va1_3,No a1.f.2.2.2.2.1,No a1.f.2.2.2.2.2.1,va1_6] 26] O)) va0_6 (a0.f.2.2.2.2.2.2))(k:AJ .st (gz H a w (Ha [.box ba1 [No a1.f.1,va1_1,AaM a1.f.2.2.1,va1_3,No a1.f.2.2.2.2.1,No a1.f.2.2.2.2.2.1,va1_6] 26] O)) va1_1 (a1.f.2.1))(l:AJ .byte (gz H a w (Ha [.box ba1 [No a1.f.1,va1_1,AaM a1.f.2.2.1,va1_3,No a1.f.2.2.2.2.1,No a1.f.2.2.2.2.2.1,va1_6] 26] O)) va1_3 (a1.f.2.2.2.1))(m:AJ .Bu (gz H a w (Ha [.box ba1 [No a1.f.1,va1_1,AaM a1.f.2.2.1,va1_3,No a1.f.2.2.2.2.1,No a1.f.2.2.2.2.2.1,va1_6] 26] O)) va1_6 (a1.f.2.2.2.2.2.2)){r:Bool×Qv}(h:J2 a0 a1=some r):
  Ok prog 156 [.agg #[No a0.f.1,va0_1,AaM a0.f.2.2.1,va0_3,No a0.f.2.2.2.2.1,No a0.f.2.2.2.2.2.1,va0_6],Aad ba1] w (fun v w'=>∃ (c:Value) (d:Value) (e:Value),v=.bool r.1/\Bb a (Ha [.box ba1 [No r.2.f.1,c,AaM r.2.f.2.2.1,d,No r.2.f.2.2.2.2.1,No r.2.f.2.2.2.2.2.1,e] 26] O) w'/\Le (fz w (Ha [.box ba1 [No a1.f.1,va1_1,AaM a1.f.2.2.1,va1_3,No a1.f.2.2.2.2.1,No a1.f.2.2.2.2.2.1,va1_6] 26] O)) (fz w' (Ha [.box ba1 [No r.2.f.1,c,AaM r.2.f.2.2.1,d,No r.2.f.2.2.2.2.1,No r.2.f.2.2.2.2.2.1,e] 26] O))/\AJ .st (gz H a w' (Ha [.box ba1 [No r.2.f.1,c,AaM r.2.f.2.2.1,d,No r.2.f.2.2.2.2.1,No r.2.f.2.2.2.2.2.1,e] 26] O)) c (r.2.f.2.1)/\AJ .byte (gz H a w' (Ha [.box ba1 [No r.2.f.1,c,AaM r.2.f.2.2.1,d,No r.2.f.2.2.2.2.1,No r.2.f.2.2.2.2.2.1,e] 26] O)) d (r.2.f.2.2.2.1)/\AJ .Bu (gz H a w' (Ha [.box ba1 [No r.2.f.1,c,AaM r.2.f.2.2.1,d,No r.2.f.2.2.2.2.1,No r.2.f.2.2.2.2.2.1,e] 26] O)) e (r.2.f.2.2.2.2.2.2)):=by
 refine Ds (n:=9) [(0,.agg #[No a0.f.1,va0_1,AaM a0.f.2.2.1,va0_3,No a0.f.2.2.2.2.1,No a0.f.2.2.2.2.2.1,va0_6]),(1,(Aad ba1))] func156 Z Z Z Z ?_;have hT:=Le.refl (fz w (Ha [.box ba1 [No a1.f.1,va1_1,AaM a1.f.2.2.1,va1_3,No a1.f.2.2.2.2.1,No a1.f.2.2.2.2.2.1,va1_6] 26] O));have b:=hL.rG H;refine Aj<|CD (t:=26) Z Z hL fun p q g j _=>A8 1 Z<|Aj<|Ai (Ae Z Aj3 Z CR.e)<|Ai (Ag 0 Z g Z)<|Ai (Ae Z Aj3 Z CR.e)<|Ai (Ag 1 Z g Z)<|A8 2 Z<|Ay ?_
 cases h
 refine Al Z ?_;have o:=g.AS (i:=0) Z;have b:=b.trans (Aa (j.trans (Ak (i:=0) Z)));have hT:=hT.trans (j.trans (Ak (i:=0) Z));exact⟨va1_1,va1_3,va1_6,Z,o,hT,(k.mono b),(l.mono b),(m.mono b)⟩
def C9(a:Int)(b:List AaV)(c:AaV)(d:AaV)(e f:Int)(g:List Qv):Option (Int×Qv):=
 some ((-1),(Qv.mk a b c d e f g))
def Bh(a0:List Qv):Int×(List AaV)×AaV×AaV×Int×Int×(List Qv)×Int->Option ((Int×(List AaV)×AaV×AaV×Int×Int×(List Qv)×Int) ⊕ (Int×Qv)):=fun⟨c,d,e,g,h,i,j,a⟩=>
 if a<(a0.length:Int) then AN (0<=a/\a<(a0.length:Int)) (Qq4 (J2 (a0.getD a.toNat Qq2) (Qv.mk c d e g h i j)) (fun b=>if b.1 then Qq7 Sum.inr (some (a,b.2)) else AN (Bz (a+1)) (some (Sum.inl (b.2.f.1,b.2.f.2.1,b.2.f.2.2.1,b.2.f.2.2.2.1,b.2.f.2.2.2.2.1,b.2.f.2.2.2.2.2.1,b.2.f.2.2.2.2.2.2,(a+1)))))) else Qq7 Sum.inr (C9 c d e g h i j)
def CA(a0:List Qv)(s:Int×(List AaV)×AaV×AaV×Int×Int×(List Qv)×Int):Option (Int×Qv):=Go.L.run (Bh a0) s
def Cg(a0:List Qv)(a1_c0:Qv):Option (Int×Qv):=
 (CA a0) (a1_c0.f.1,a1_c0.f.2.1,a1_c0.f.2.2.1,a1_c0.f.2.2.2.1,a1_c0.f.2.2.2.2.1,a1_c0.f.2.2.2.2.2.1,a1_c0.f.2.2.2.2.2.2,0)
theorem JL{c w:World}{H:PH}(hH:Le H (hp c)){O:List BS}{a0:List Qv}{a1_c0:Qv}{va0:Value}{ba1_c0:Nat}{va1_c0_1 va1_c0_3 va1_c0_6:Value}(hL:Bb c (Ha [.box ba1_c0 [No a1_c0.f.1,va1_c0_1,AaM a1_c0.f.2.2.1,va1_c0_3,No a1_c0.f.2.2.2.2.1,No a1_c0.f.2.2.2.2.2.1,va1_c0_6] 26] O) w)(a9:AJ .Bu (gz H c w (Ha [.box ba1_c0 [No a1_c0.f.1,va1_c0_1,AaM a1_c0.f.2.2.1,va1_c0_3,No a1_c0.f.2.2.2.2.1,No a1_c0.f.2.2.2.2.2.1,va1_c0_6] 26] O)) va0 a0)(ha1_c0_1:AJ .st (gz H c w (Ha [.box ba1_c0 [No a1_c0.f.1,va1_c0_1,AaM a1_c0.f.2.2.1,va1_c0_3,No a1_c0.f.2.2.2.2.1,No a1_c0.f.2.2.2.2.2.1,va1_c0_6] 26] O)) va1_c0_1 (a1_c0.f.2.1))(ha1_c0_3:AJ .byte (gz H c w (Ha [.box ba1_c0 [No a1_c0.f.1,va1_c0_1,AaM a1_c0.f.2.2.1,va1_c0_3,No a1_c0.f.2.2.2.2.1,No a1_c0.f.2.2.2.2.2.1,va1_c0_6] 26] O)) va1_c0_3 (a1_c0.f.2.2.2.1))(ha1_c0_6:AJ .Bu (gz H c w (Ha [.box ba1_c0 [No a1_c0.f.1,va1_c0_1,AaM a1_c0.f.2.2.1,va1_c0_3,No a1_c0.f.2.2.2.2.1,No a1_c0.f.2.2.2.2.2.1,va1_c0_6] 26] O)) va1_c0_6 (a1_c0.f.2.2.2.2.2.2)){r:Int×Qv}(h:Cg a0 a1_c0=some r):
  Ok prog 204 [va0,.func (.func 156) #[] #[Aad ba1_c0]] w (fun v w'=>∃ (u2:Value) (u4:Value) (u7:Value),v=No r.1/\Bb c (Ha [.box ba1_c0 [No r.2.f.1,u2,AaM r.2.f.2.2.1,u4,No r.2.f.2.2.2.2.1,No r.2.f.2.2.2.2.2.1,u7] 26] O) w'/\Le (fz w (Ha [.box ba1_c0 [No a1_c0.f.1,va1_c0_1,AaM a1_c0.f.2.2.1,va1_c0_3,No a1_c0.f.2.2.2.2.1,No a1_c0.f.2.2.2.2.2.1,va1_c0_6] 26] O)) (fz w' (Ha [.box ba1_c0 [No r.2.f.1,u2,AaM r.2.f.2.2.1,u4,No r.2.f.2.2.2.2.1,No r.2.f.2.2.2.2.2.1,u7] 26] O))/\AJ .st (gz H c w' (Ha [.box ba1_c0 [No r.2.f.1,u2,AaM r.2.f.2.2.1,u4,No r.2.f.2.2.2.2.1,No r.2.f.2.2.2.2.2.1,u7] 26] O)) u2 (r.2.f.2.1)/\AJ .byte (gz H c w' (Ha [.box ba1_c0 [No r.2.f.1,u2,AaM r.2.f.2.2.1,u4,No r.2.f.2.2.2.2.1,No r.2.f.2.2.2.2.2.1,u7] 26] O)) u4 (r.2.f.2.2.2.1)/\AJ .Bu (gz H c w' (Ha [.box ba1_c0 [No r.2.f.1,u2,AaM r.2.f.2.2.1,u4,No r.2.f.2.2.2.2.1,No r.2.f.2.2.2.2.2.1,u7] 26] O)) u7 (r.2.f.2.2.2.2.2.2)):=by
 refine Ds (n:=19) [(0,va0),(1,.func (.func 156) #[] #[Aad ba1_c0])] func204 Z Z Z Z ?_;have hT:=Le.refl (fz w (Ha [.box ba1_c0 [No a1_c0.f.1,va1_c0_1,AaM a1_c0.f.2.2.1,va1_c0_3,No a1_c0.f.2.2.2.2.1,No a1_c0.f.2.2.2.2.2.1,va1_c0_6] 26] O));have ab:=hL.rG H;refine AI 1 Z<|B2 (Int×(List AaV)×AaV×AaV×Int×Int×(List Qv)×Value×Value×Value) (fun⟨aj,ak,al,am,an,ao,ap,i,j,k⟩=>[]) (fun⟨aj,ak,al,am,an,ao,ap,i,j,k⟩ wr=>FX c (Ha [.box ba1_c0 [No aj,i,AaM al,j,No an,No ao,k] 26] O) wr fun Oz=>AJ .st (gz H c wr Oz) i ak/\AJ .byte (gz H c wr Oz) j am/\AJ .Bu (gz H c wr Oz) k ap/\Le (fz w (Ha [.box ba1_c0 [No a1_c0.f.1,va1_c0_1,AaM a1_c0.f.2.2.1,va1_c0_3,No a1_c0.f.2.2.2.2.1,No a1_c0.f.2.2.2.2.2.1,va1_c0_6] 26] O)) (fz wr Oz)/\C9 aj ak al am an ao ap=some r) ?_ ?_
 ·refine Bx 1 Z<|Ai (Bm (a9.mono ab))<|A8 1 Z<|A4 ?_;obtain⟨a3,h⟩:=Ba h
  refine B7 (Int×(List AaV)×AaV×AaV×Int×Int×(List Qv)×Int×Value×Value×Value×Nat) (fun⟨l,m,o,p,q,s,t,a,d,e,g,n⟩=>[(0,va0),(1,.func (.func 156) #[] #[Aad ba1_c0]),(7,No (a0.length:Int)),(8,No a)]) (fun⟨l,m,o,p,q,s,t,a,d,e,g,n⟩ wr=>FX c (Ha [.box ba1_c0 [No l,d,AaM o,e,No q,No s,g] 26] O) wr fun Oz=>AJ .Bu (gz H c wr Oz) va0 a0/\AJ .st (gz H c wr Oz) d m/\AJ .byte (gz H c wr Oz) e p/\AJ .Bu (gz H c wr Oz) g t/\Le (fz w (Ha [.box ba1_c0 [No a1_c0.f.1,va1_c0_1,AaM a1_c0.f.2.2.1,va1_c0_3,No a1_c0.f.2.2.2.2.1,No a1_c0.f.2.2.2.2.2.1,va1_c0_6] 26] O)) (fz wr Oz)/\Ia (Bh a0) n (l,m,o,p,q,s,t,a)=some r) (fun⟨l,m,o,p,q,s,t,a,d,e,g,n⟩=>n) (a1_c0.f.1,a1_c0.f.2.1,a1_c0.f.2.2.1,a1_c0.f.2.2.2.1,a1_c0.f.2.2.2.2.1,a1_c0.f.2.2.2.2.2.1,a1_c0.f.2.2.2.2.2.2,0,va1_c0_1,va1_c0_3,va1_c0_6,a3) Z ⟨hL,(a9.mono ab),(ha1_c0_1.mono ab),(ha1_c0_3.mono ab),(ha1_c0_6.mono ab),hT,h⟩ ?_;rintro⟨l,m,o,p,q,s,t,a,d,e,g,nn71⟩ bf ⟨x,ac,aq,ar,au,hT,h⟩
  obtain⟨a3,bh,rfl,h,ag⟩:=AZ h;have b:=x.rG H;refine AI 1 Z<|AB<|AQ h ?_ ?_<;>intro ba h
  ·refine Ax<|As<|AB<|A4<|AI 2 Z<|Bx 3 Z<|A2 h fun a4 h=>Bi (ac.mono b) a.toNat (GX a4) (AX a4) ?_;rintro bi _ e76t0 bb;obtain⟨_,_,rfl,rfl,⟨_,_,rfl,⟨e76v1,rfl,e76h1⟩,⟨_,_,rfl,rfl,⟨_,_,rfl,⟨e76v3,rfl,e76h3⟩,⟨_,_,rfl,rfl,⟨_,_,rfl,rfl,⟨e76v6,rfl,e76h6⟩⟩⟩⟩⟩⟩⟩:=Go.E.Rp.HQ e76t0;refine Ai (Cz bb (An x))<|Aw h fun u bc h=>Fl Z Z (RZ (a0:=(a0.getD a.toNat Qq2)) (a1:=(Qv.mk l m o p q s t)) (O:=(Ha [] O)) hH x e76h1 e76h3 e76h6 (aq.mono b) (ar.mono b) (au.mono b) bc) ?_;rintro _ bj ⟨av,aw,ax,rfl,y,z,ad,ae,af⟩;refine Ad<|B8 h ?_ ?_<;>intro bd h
   ·have ah:=y.rG H;refine AI 2 Z<|Ay<|Av<|Aq<|BJ ?_;have h:=Cf.out h ag;refine Av<|Bs ?_
    cases h
    refine Al Z ?_;have hT:=hT.trans z;exact⟨av,aw,ax,Z,y,hT,(ad.mono ah),(ae.mono ah),(af.mono ah)⟩
   refine Ax<|A3<|As ?_;have aa:=y.rG H;refine Au<|A2 h fun be h=>Ai (A7 be)<|Ar 1 Z<|AL ?_;have h:=Cf.again h ag;have b:=b.trans (Aa z);have hT:=hT.trans z;refine AM (u.2.f.1,u.2.f.2.1,u.2.f.2.2.1,u.2.f.2.2.2.1,u.2.f.2.2.2.2.1,u.2.f.2.2.2.2.2.1,u.2.f.2.2.2.2.2.2,(a+1),av,aw,ax,a3) Z ⟨y,((ac.mono b).mono aa),(ad.mono aa),(ae.mono aa),(af.mono aa),hT,h⟩
  refine B4<|AF<|A5 ?_;have h:=Cf.out h ag;refine Bg<|AA (l,m,o,p,q,s,t,d,e,g) ⟨x,(aq.mono b),(ar.mono b),(au.mono b),hT,h⟩
 rintro⟨aj,ak,al,am,an,ao,ap,i,j,k⟩ bg ⟨a5,a6,a7,a8,hT,h⟩;have ai:=a5.rG H;refine AI 1 Z<|Ay ?_
 cases h
 refine Al Z ⟨i,j,k,Z,a5,hT,(a6.mono ai),(a7.mono ai),(a8.mono ai)⟩
def AW(a0:List Qv)(a1_c0:Qv):Option (Bool×Qv):=
 Qq4 (Cg a0 a1_c0) (fun a=>some (decide (0<=a.1),a.2))
theorem B0{a w:World}{H:PH}(hH:Le H (hp a))(O:List BS)(a0:List Qv)(a1_c0:Qv){va0:Value}{ba1_c0:Nat}{va1_c0_1 va1_c0_3 va1_c0_6:Value}(hL:Bb a (Ha [.box ba1_c0 [No a1_c0.f.1,va1_c0_1,AaM a1_c0.f.2.2.1,va1_c0_3,No a1_c0.f.2.2.2.2.1,No a1_c0.f.2.2.2.2.2.1,va1_c0_6] 26] O) w)(p:AJ .Bu (gz H a w (Ha [.box ba1_c0 [No a1_c0.f.1,va1_c0_1,AaM a1_c0.f.2.2.1,va1_c0_3,No a1_c0.f.2.2.2.2.1,No a1_c0.f.2.2.2.2.2.1,va1_c0_6] 26] O)) va0 a0)(ha1_c0_1:AJ .st (gz H a w (Ha [.box ba1_c0 [No a1_c0.f.1,va1_c0_1,AaM a1_c0.f.2.2.1,va1_c0_3,No a1_c0.f.2.2.2.2.1,No a1_c0.f.2.2.2.2.2.1,va1_c0_6] 26] O)) va1_c0_1 (a1_c0.f.2.1))(ha1_c0_3:AJ .byte (gz H a w (Ha [.box ba1_c0 [No a1_c0.f.1,va1_c0_1,AaM a1_c0.f.2.2.1,va1_c0_3,No a1_c0.f.2.2.2.2.1,No a1_c0.f.2.2.2.2.2.1,va1_c0_6] 26] O)) va1_c0_3 (a1_c0.f.2.2.2.1))(ha1_c0_6:AJ .Bu (gz H a w (Ha [.box ba1_c0 [No a1_c0.f.1,va1_c0_1,AaM a1_c0.f.2.2.1,va1_c0_3,No a1_c0.f.2.2.2.2.1,No a1_c0.f.2.2.2.2.2.1,va1_c0_6] 26] O)) va1_c0_6 (a1_c0.f.2.2.2.2.2.2)){r:Bool×Qv}(h:AW a0 a1_c0=some r):
  Ok prog 155 [va0,.func (.func 156) #[] #[Aad ba1_c0]] w (fun v w'=>∃ (c:Value) (d:Value) (e:Value),v=.bool r.1/\Bb a (Ha [.box ba1_c0 [No r.2.f.1,c,AaM r.2.f.2.2.1,d,No r.2.f.2.2.2.2.1,No r.2.f.2.2.2.2.2.1,e] 26] O) w'/\Le (fz w (Ha [.box ba1_c0 [No a1_c0.f.1,va1_c0_1,AaM a1_c0.f.2.2.1,va1_c0_3,No a1_c0.f.2.2.2.2.1,No a1_c0.f.2.2.2.2.2.1,va1_c0_6] 26] O)) (fz w' (Ha [.box ba1_c0 [No r.2.f.1,c,AaM r.2.f.2.2.1,d,No r.2.f.2.2.2.2.1,No r.2.f.2.2.2.2.2.1,e] 26] O))/\AJ .st (gz H a w' (Ha [.box ba1_c0 [No r.2.f.1,c,AaM r.2.f.2.2.1,d,No r.2.f.2.2.2.2.1,No r.2.f.2.2.2.2.2.1,e] 26] O)) c (r.2.f.2.1)/\AJ .byte (gz H a w' (Ha [.box ba1_c0 [No r.2.f.1,c,AaM r.2.f.2.2.1,d,No r.2.f.2.2.2.2.1,No r.2.f.2.2.2.2.2.1,e] 26] O)) d (r.2.f.2.2.2.1)/\AJ .Bu (gz H a w' (Ha [.box ba1_c0 [No r.2.f.1,c,AaM r.2.f.2.2.1,d,No r.2.f.2.2.2.2.1,No r.2.f.2.2.2.2.2.1,e] 26] O)) e (r.2.f.2.2.2.2.2.2)):=by
 refine Ds (n:=9) [(0,va0),(1,.func (.func 156) #[] #[Aad ba1_c0])] func155 Z Z Z Z ?_;have hT:=Le.refl (fz w (Ha [.box ba1_c0 [No a1_c0.f.1,va1_c0_1,AaM a1_c0.f.2.2.1,va1_c0_3,No a1_c0.f.2.2.2.2.1,No a1_c0.f.2.2.2.2.2.1,va1_c0_6] 26] O));have b:=hL.rG H;refine AI 1 Z<|Bx 2 Z<|Aw h fun t q h=>ES (JL (a0:=a0) (a1_c0:=a1_c0) (O:=(Ha [] O)) hH hL (p.mono b) (ha1_c0_1.mono b) (ha1_c0_3.mono b) (ha1_c0_6.mono b) q) ?_;rintro _ u ⟨k,l,m,rfl,s,o,g,i,j⟩;refine A8 2 Z<|Ay ?_
 cases h
 refine Al Z ?_;have hT:=hT.trans o;exact⟨k,l,m,Z,s,hT,g,i,j⟩
def Ct(a0:Qv)(d:AaV)(o:AaV)(e g b c a:Int):Option Bool:=
 if((decide ((a0.f.2.1.length:Int)<b))||(decide (c<(a0.f.2.1.length:Int)))) then(if((decide ((a0.f.2.1.length:Int)<b))||(decide (c<(a0.f.2.1.length:Int)))) then some false else(if !((decide (a0.f.1=8))||(decide (a0.f.1=9))) then some true else Qq4 (AW a0.f.2.2.2.2.2.2 a0) (fun h=>some (!h.1)))) else(if(a0.f.2.2.2.2.2.2.length:Int)<a then(if(a0.f.2.2.2.2.2.2.length:Int)<a then some false else(if !((decide (a0.f.1=8))||(decide (a0.f.1=9))) then some true else Qq4 (AW a0.f.2.2.2.2.2.2 a0) (fun i=>some (!i.1)))) else(if(bif !((decide (a0.f.1=8))||(decide (a0.f.1=9))) then decide (a<(a0.f.2.2.2.2.2.2.length:Int)) else false) then(if(bif !((decide (a0.f.1=8))||(decide (a0.f.1=9))) then decide (a<(a0.f.2.2.2.2.2.2.length:Int)) else false) then some false else(if !((decide (a0.f.1=8))||(decide (a0.f.1=9))) then some true else Qq4 (AW a0.f.2.2.2.2.2.2 a0) (fun j=>some (!j.1)))) else(if d=a0.f.2.2.1 then(if e=a0.f.2.2.2.2.1 then(if g=a0.f.2.2.2.2.2.1 then(if(o.length:Int)=(a0.f.2.2.2.1.length:Int) then(if !((decide (a0.f.1=8))||(decide (a0.f.1=9))) then some true else Qq4 (AW a0.f.2.2.2.2.2.2 a0) (fun k=>some (!k.1))) else some false) else(if g=a0.f.2.2.2.2.2.1 then(if !((decide (a0.f.1=8))||(decide (a0.f.1=9))) then some true else Qq4 (AW a0.f.2.2.2.2.2.2 a0) (fun l=>some (!l.1))) else some false)) else(if e=a0.f.2.2.2.2.1 then(if !((decide (a0.f.1=8))||(decide (a0.f.1=9))) then some true else Qq4 (AW a0.f.2.2.2.2.2.2 a0) (fun m=>some (!m.1))) else some false)) else(if d=a0.f.2.2.1 then(if !((decide (a0.f.1=8))||(decide (a0.f.1=9))) then some true else Qq4 (AW a0.f.2.2.2.2.2.2 a0) (fun n=>some (!n.1))) else some false))))
def JB(a0:Qv):Option Bool:=
 if a0.f.1=1 then(Ct a0) ([]:AaV) ([]) (0:Int) (0:Int) (1:Int) (1:Int) (0:Int) else(if a0.f.1=2 then(Ct a0) ([]:AaV) ([]) (0:Int) (0:Int) (2:Int) (16:Int) (0:Int) else(if a0.f.1=3 then(Ct a0) ([]:AaV) ([]) a0.f.2.2.2.2.1 (0:Int) (2:Int) (2:Int) (0:Int) else(if a0.f.1=4 then(Ct a0) ([]:AaV) a0.f.2.2.2.1 (0:Int) (0:Int) (0:Int) (0:Int) (0:Int) else(if a0.f.1=5 then(Ct a0) a0.f.2.2.1 ([]) (0:Int) (0:Int) (0:Int) (0:Int) (0:Int) else(if a0.f.1=6 then(Ct a0) a0.f.2.2.1 ([]) a0.f.2.2.2.2.1 a0.f.2.2.2.2.2.1 (0:Int) (0:Int) (0:Int) else(if a0.f.1=7 then(Ct a0) a0.f.2.2.1 a0.f.2.2.2.1 (0:Int) (0:Int) (0:Int) (0:Int) (0:Int) else(if a0.f.1=10 then(Ct a0) ([]:AaV) ([]) (0:Int) (0:Int) (0:Int) (0:Int) (1:Int) else(Ct a0) ([]:AaV) ([]) (0:Int) (0:Int) (0:Int) (0:Int) (2:Int))))))))
section
variable(w:World)(H:PH)(hH:Le H (hp w)) include hH
theorem Tz{a0:Qv}{b e c:Value}(ae:AJ .st H b (a0.f.2.1))(o:AJ .byte H e (a0.f.2.2.2.1))(g:AJ .Bu H c (a0.f.2.2.2.2.2.2)){r:Bool}(h:JB a0=some r):
  Qqv 101 [.agg #[No a0.f.1,b,AaM a0.f.2.2.1,e,No a0.f.2.2.2.2.1,No a0.f.2.2.2.2.2.1,c]] w (fun v w'=>v=.bool r):=by
 refine A1 123 [(0,.agg #[No a0.f.1,b,AaM a0.f.2.2.1,e,No a0.f.2.2.2.2.1,No a0.f.2.2.2.2.2.1,c])] func101 Z fun hL=>Aj<|CD (t:=26) Z Z hL fun w1 b1 ax eb _=>A8 1 Z<|Aj<|Ai (Ae Z Aj3 Z CR.e)<|Ai (Ag 0 Z ax Z)<|Ai (Ae Z Aj3 Z Nq.e)<|Ai (Ag 0 Z ax Z)<|Ai (Ae Z Aj3 Z JP.e)<|Ai (Ag 0 Z ax Z)<|Ai (AT (fun _=>YW _ _ ae.one _ g.one _))<|A9 By.e Z ax fun w2 b2 dc ec _=>Af 0 Z dc Z (a:=(Bk Z (Bk ae.one (Bk Z (Bk Z (Bk Z (Bk Z (Bk g.one Kq)))))))) fun w3 ag ed=>Ad<|AI 2 Z<|AI 1 Z ?_
 refine B2 (AaV×AaV×Int×Int×Int×Int×Int×Value) (fun⟨k,ay,l,m,ak,al,ao,d⟩=>[(1,(Aad b1)),(3,(Aad b2)),(4,No ak),(5,No al),(6,No ao)]) (fun⟨k,ay,l,m,ak,al,ao,d⟩ wr=>FX w [.box b2 [No a0.f.1,b,AaM k,d,No l,No m,c] 26,.box b1 [No a0.f.1,b,AaM a0.f.2.2.1,e,No a0.f.2.2.2.2.1,No a0.f.2.2.2.2.2.1,c] 26] wr fun Oz=>AJ .byte (gz H w wr Oz) d ay/\(Ct a0) k ay l m ak al ao=some r) ?_ ?_
 ·refine Aj<|Ai (Ae Z Aj3 Z CR.e)<|Ai (Ag 1 Z ag Z)<|Ad<|A4<|AI 2 Z<|AQ h ?_ ?_<;>intro ca h
  ·refine Au<|Ar 2 Z<|AL<|A3<|AA (([]:AaV),[],0,0,1,1,0,Aac) ⟨ag,(AJ.nil _ _),h⟩
  refine AI 2 Z<|AQ h ?_ ?_<;>intro cb h
  ·refine Au<|Ar 2 Z<|AL<|A3<|AA (([]:AaV),[],0,0,2,16,0,Aac) ⟨ag,(AJ.nil _ _),h⟩
  refine AI 2 Z<|AQ h ?_ ?_<;>intro cc h
  ·refine Pw (Qqz 0 5 (.tail 5)) mixed Qqb (fun eu cd=>?_);have a2:=ag.call cd;refine CB Z (Ae Z Aj3 Z CR.e) Z<|CB Z (Ag 1 Z a2 Z) Z<|D4 2 Z<|CB Z (Ae Z Aj3 Z CR.e) Z<|BT (fun ev ce=>?_);have cf:=a2.call ce;refine B5 0 Z Z cf Z Z fun ew cg d7=>AL<|A3<|AA (([]:AaV),[],a0.f.2.2.2.2.1,0,2,2,0,Aac) ⟨cg,(AJ.nil _ _),h⟩
  refine AI 2 Z<|AQ h ?_ ?_<;>intro ch h
  ·refine Au<|Ai (Ae Z Aj3 Z IF.e)<|Ai (Ag 1 Z ag Z)<|Ai (Ae Z Aj3 Z IF.e)<|B5 0 Z o.one ag Z Z fun ex ci d8=>AL<|A3<|AA (([]:AaV),a0.f.2.2.2.1,0,0,0,0,0,e) ⟨ci,(o.mono  Ah),h⟩
  refine AI 2 Z<|AQ h ?_ ?_<;>intro cj h
  ·refine Au<|Ai (Ae Z Aj3 Z HO.e)<|Ai (Ag 1 Z ag Z)<|Ai (Ae Z Aj3 Z HO.e)<|B5 0 Z Z ag Z Z fun ey ck d9=>AL<|A3<|AA (a0.f.2.2.1,[],0,0,0,0,0,Aac) ⟨ck,(AJ.nil _ _),h⟩
  refine AI 2 Z<|AQ h ?_ ?_<;>intro cl h
  ·refine J7 (Jz (NP MP)) (fun z0 z=>Le (gz H w z0 [.box b2 [No a0.f.1,b,(AaM []),Aac,No 0,No 0,c] 26,.box b1 [No a0.f.1,b,AaM a0.f.2.2.1,e,No a0.f.2.2.2.2.1,No a0.f.2.2.2.2.2.1,c] 26]) (hp z)/\z.heap[b1]? = some (.cells [No a0.f.1,b,AaM a0.f.2.2.1,e,No a0.f.2.2.2.2.1,No a0.f.2.2.2.2.2.1,c].toArray 26 (0,0))) mixed Z (fun af ez cn=>?_);have ap:=ag.call cn;have ai:=ap.rG H;refine MQ ⟨ai.trans (An ap),ap.at (i:=1) Z⟩ fun kI88=>A6 0 af kI88 Z (fun _ _=>Ae Z Aj3 Z HO.e) Z<|A6 1 af kI88 Z (fun _ hI=>KK Z hI.2 Z) Z<|A6 2 af kI88 Z (fun _ _=>Ae Z Aj3 Z CR.e) Z<|A6 3 af kI88 Z (fun _ hI=>KK Z hI.2 Z) Z<|A6 4 af kI88 Z (fun _ _=>Ae Z Aj3 Z CR.e) Z<|A6 5 af kI88 Z (fun _ hI=>KK Z hI.2 Z) Z<|A6 6 af kI88 Z (fun _ _=>Ae Z Aj3 Z HO.e) Z<|FY 7 Z ?_
   refine B5 0 Z Z ap Z Z ?_;intro e0 av a4;have ai:=ai.trans (Aa a4);refine AV ⟨ai.trans (An av),av.at (i:=1) Z⟩ fun kI90=>A6 8 af kI90 Z (fun _ _=>Ae Z Aj3 Z CR.e) Z<|FY 9 Z<|B5 0 Z Z av Z Z ?_;intro e1 aw a5;have ai:=ai.trans (Aa a5);refine AV ⟨ai.trans (An aw),aw.at (i:=1) Z⟩ fun kI92=>A6 10 af kI92 Z (fun _ _=>Ae Z Aj3 Z CR.e) Z<|FY 11 Z<|B5 0 Z Z aw Z Z fun e2 co ea=>G7<|EF<|A3<|AA (a0.f.2.2.1,[],a0.f.2.2.2.2.1,a0.f.2.2.2.2.2.1,0,0,0,Aac) ⟨co,(AJ.nil _ _),h⟩
  refine AI 2 Z<|AQ h ?_ ?_<;>intro cp h
  ·refine J7 (Jz (NP MP)) (fun z0 z=>Le (gz H w z0 [.box b2 [No a0.f.1,b,(AaM []),Aac,No 0,No 0,c] 26,.box b1 [No a0.f.1,b,AaM a0.f.2.2.1,e,No a0.f.2.2.2.2.1,No a0.f.2.2.2.2.2.1,c] 26]) (hp z)/\z.heap[b1]? = some (.cells [No a0.f.1,b,AaM a0.f.2.2.1,e,No a0.f.2.2.2.2.1,No a0.f.2.2.2.2.2.1,c].toArray 26 (0,0))) mixed Z (fun an e3 cq=>?_);have aq:=ag.call cq;have ar:=aq.rG H;refine MQ ⟨ar.trans (An aq),aq.at (i:=1) Z⟩ fun kI100=>A6 0 an kI100 Z (fun _ _=>Ae Z Aj3 Z HO.e) Z<|A6 1 an kI100 Z (fun _ hI=>KK Z hI.2 Z) Z<|A6 2 an kI100 Z (fun _ _=>Ae Z Aj3 Z IF.e) Z<|A6 3 an kI100 Z (fun _ hI=>KK Z hI.2 Z) Z<|A6 4 an kI100 Z (fun _ _=>Ae Z Aj3 Z HO.e) Z<|FY 5 Z<|B5 0 Z Z aq Z Z ?_;intro ee au a3;have ar:=ar.trans (Aa a3);refine AV ⟨ar.trans (An au),au.at (i:=1) Z⟩ fun kI102=>?_
   refine A6 6 an kI102 Z (fun _ _=>Ae Z Aj3 Z IF.e) Z<|FY 7 Z<|B5 0 Z o.one au Z Z fun ef a6 dd=>G7<|EF<|A3<|AA (a0.f.2.2.1,a0.f.2.2.2.1,0,0,0,0,0,e) ⟨a6,(o.mono  Ah),h⟩
  refine AI 2 Z<|AQ h ?_ ?_<;>intro a7 h
  ·refine Au<|Ar 1 Z<|AL<|A3<|AA (([]:AaV),[],0,0,0,0,1,Aac) ⟨ag,(AJ.nil _ _),h⟩
  refine Au<|Ar 1 Z<|AL<|A3<|AA (([]:AaV),[],0,0,0,0,2,Aac) ⟨ag,(AJ.nil _ _),h⟩
 rintro⟨k,ay,l,m,ak,al,ao,d⟩ aj ⟨a,a8,h⟩;refine Aj<|Ai (Ae Z Aj3 Z JP.e)<|Ai (Ag 1 Z a Z)<|Ai (Bm g)<|A8 1 Z<|Aj<|Ai (Ae Z Aj3 Z CR.e)<|Ai (Ag 1 Z a Z)<|Ar 2 Z<|OU 4 68 (.bool ((decide (a0.f.1=8))||(decide (a0.f.1=9)))) (fun az=>?_) ?_
 ·refine IG (s:=64) Z (fun p=>?_) (fun p=>?_)
  ·iterate 3 refine Ao p ?_
   refine Ai (AK p Z)<|az.to 3 (Wq p) Z Z
  refine Ab p<|Ai (Ae Z Aj3 Z CR.e)<|Ab p<|Ai (Ag 1 Z a Z)<|Ab p<|Ai (Am Z)<|Ai (AO p Z)<|az.to 3 (Wr p) Z Z
 refine A8 1 Z<|AB<|A4<|AB<|Aj<|Ai (Ae Z Aj3 Z Nq.e)<|Ai (Ag 1 Z a Z)<|Ai (Bm ae)<|Ar 3 Z<|OU 6 81 (.bool ((decide ((a0.f.2.1.length:Int)<ak))||(decide (al<(a0.f.2.1.length:Int))))) (fun a1=>?_) ?_
 ·refine IG (s:=75) Z (fun j=>?_) (fun j=>?_)
  ·iterate 5 refine Ao j ?_
   refine Ai (AK j Z)<|a1.to 5 (Wq j) Z Z
  refine Ab j<|Ai (Ae Z Aj3 Z Nq.e)<|Ab j<|Ai (Ag 1 Z a Z)<|Ab j<|Ai (Bm ae)<|Ab j<|Ai (Am Z)<|Ab j<|Ai (Am Z)<|Ai (AO j Z)<|a1.to 5 (Wr j) Z Z
 refine A8 1 Z<|B8 h ?_ ?_<;>intro a9 h
 ·refine Ax<|As<|B8 h ?_ ?_<;>intro ba h
  ·refine AI 1 Z<|Ay<|Av<|Aq ?_
   cases h
   refine Al Z ⟨a.ext,Z⟩
  refine Ax<|A3<|As<|Bx 3 Z<|Fs 116 h ?_ ?_<;>intro u h
  ·iterate 5 refine Ao u ?_
   refine Ai (AK u Z)<|A8 1 Z<|Ay ?_
   cases h
   refine Al Z ⟨a.ext,Z⟩
  refine Ab u<|Ai (Ae Z Aj3 Z JP.e)<|Ab u<|Ai (Ag 1 Z a Z)<|Ab u<|Ai (Am Z)<|Ab u ?_;have bb:Bb w [.box b1 [No a0.f.1,b,AaM a0.f.2.2.1,e,No a0.f.2.2.2.2.1,No a0.f.2.2.2.2.2.1,c] 26,.box b2 [No a0.f.1,b,AaM k,d,No l,No m,c] 26] aj:=a.C1 [1] Z;refine Aw h fun eg bc h=>ES (B0 hH ([.box b2 [No a0.f.1,b,AaM k,d,No l,No m,c] 26]) a0.f.2.2.2.2.2.2 a0 bb (g.mono  Ah) (ae.mono  Ah) (o.mono  Ah) (g.mono  Ah) bc) ?_;rintro _ eh ⟨de,df,dg,rfl,bd,dh,cr,cs,ct⟩;refine Ab u<|Ai (Am Z)<|Ai (AO u Z)<|A8 1 Z<|Ay ?_
  cases h
  refine Al Z ⟨bd.ext,Z⟩
 refine AI 4 Z<|AQ h ?_ ?_<;>intro be h
 ·refine Ax<|As<|AQ h ?_ ?_<;>intro bf h
  ·refine AI 1 Z<|Ay<|Av<|Aq ?_
   cases h
   refine Al Z ⟨a.ext,Z⟩
  refine Ax<|A3<|As<|Bx 3 Z<|Fs 116 h ?_ ?_<;>intro x h
  ·iterate 5 refine Ao x ?_
   refine Ai (AK x Z)<|A8 1 Z<|Ay ?_
   cases h
   refine Al Z ⟨a.ext,Z⟩
  refine Ab x<|Ai (Ae Z Aj3 Z JP.e)<|Ab x<|Ai (Ag 1 Z a Z)<|Ab x<|Ai (Am Z)<|Ab x ?_;have bg:Bb w [.box b1 [No a0.f.1,b,AaM a0.f.2.2.1,e,No a0.f.2.2.2.2.1,No a0.f.2.2.2.2.2.1,c] 26,.box b2 [No a0.f.1,b,AaM k,d,No l,No m,c] 26] aj:=a.C1 [1] Z;refine Aw h fun ei bh h=>ES (B0 hH ([.box b2 [No a0.f.1,b,AaM k,d,No l,No m,c] 26]) a0.f.2.2.2.2.2.2 a0 bg (g.mono  Ah) (ae.mono  Ah) (o.mono  Ah) (g.mono  Ah) bh) ?_;rintro _ ej ⟨di,dj,dk,rfl,bi,dl,cu,cv,cw⟩;refine Ab x<|Ai (Am Z)<|Ai (AO x Z)<|A8 1 Z<|Ay ?_
  cases h
  refine Al Z ⟨bi.ext,Z⟩
 refine Bx 3 Z<|U0 3 2 Z Z Z Z Z Z Z<|A8 1 Z<|B8 h ?_ ?_<;>intro bj h
 ·refine Ax<|As<|B8 h ?_ ?_<;>intro bk h
  ·refine AI 1 Z<|Ay<|Av<|Aq ?_
   cases h
   refine Al Z ⟨a.ext,Z⟩
  refine Ax<|A3<|As<|Bx 3 Z<|Fs 116 h ?_ ?_<;>intro y h
  ·iterate 5 refine Ao y ?_
   refine Ai (AK y Z)<|A8 1 Z<|Ay ?_
   cases h
   refine Al Z ⟨a.ext,Z⟩
  refine Ab y<|Ai (Ae Z Aj3 Z JP.e)<|Ab y<|Ai (Ag 1 Z a Z)<|Ab y<|Ai (Am Z)<|Ab y ?_;have bl:Bb w [.box b1 [No a0.f.1,b,AaM a0.f.2.2.1,e,No a0.f.2.2.2.2.1,No a0.f.2.2.2.2.2.1,c] 26,.box b2 [No a0.f.1,b,AaM k,d,No l,No m,c] 26] aj:=a.C1 [1] Z;refine Aw h fun ek bm h=>ES (B0 hH ([.box b2 [No a0.f.1,b,AaM k,d,No l,No m,c] 26]) a0.f.2.2.2.2.2.2 a0 bl (g.mono  Ah) (ae.mono  Ah) (o.mono  Ah) (g.mono  Ah) bm) ?_;rintro _ el ⟨dm,dn,dp,rfl,bn,dq,cx,cy,cz⟩;refine Ab y<|Ai (Am Z)<|Ai (AO y Z)<|A8 1 Z<|Ay ?_
  cases h
  refine Al Z ⟨bn.ext,Z⟩
 refine Aj<|Ai (Ae Z Aj3 Z HO.e)<|Ai (Ag 0 Z a Z)<|Ai (Ae Z Aj3 Z HO.e)<|Ai (Ag 1 Z a Z)<|Ai (Ss Z Z)<|A8 1 Z<|CX h ?_ ?_<;>intro bo h
 ·refine Ax<|As<|CX h ?_ ?_<;>intro bp h
  ·refine AI 1 Z<|Ay<|Av<|Aq ?_
   cases h
   refine Al Z ⟨a.ext,Z⟩
  refine Ax<|A3<|As<|Bx 3 Z<|Fs 116 h ?_ ?_<;>intro aa h
  ·iterate 5 refine Ao aa ?_
   refine Ai (AK aa Z)<|A8 1 Z<|Ay ?_
   cases h
   refine Al Z ⟨a.ext,Z⟩
  refine Ab aa<|Ai (Ae Z Aj3 Z JP.e)<|Ab aa<|Ai (Ag 1 Z a Z)<|Ab aa<|Ai (Am Z)<|Ab aa ?_;have bq:Bb w [.box b1 [No a0.f.1,b,AaM a0.f.2.2.1,e,No a0.f.2.2.2.2.1,No a0.f.2.2.2.2.2.1,c] 26,.box b2 [No a0.f.1,b,AaM k,d,No l,No m,c] 26] aj:=a.C1 [1] Z;refine Aw h fun em br h=>ES (B0 hH ([.box b2 [No a0.f.1,b,AaM k,d,No l,No m,c] 26]) a0.f.2.2.2.2.2.2 a0 bq (g.mono  Ah) (ae.mono  Ah) (o.mono  Ah) (g.mono  Ah) br) ?_;rintro _ en ⟨dr,ds,dt,rfl,bs,du,c0,c1,c2⟩;refine Ab aa<|Ai (Am Z)<|Ai (AO aa Z)<|A8 1 Z<|Ay ?_
  cases h
  refine Al Z ⟨bs.ext,Z⟩
 refine Aj<|Ai (Ae Z Aj3 Z CR.e)<|Ai (Ag 0 Z a Z)<|Ai (Ae Z Aj3 Z CR.e)<|Ai (Ag 1 Z a Z)<|A8 2 Z<|CX h ?_ ?_<;>intro bt h
 ·refine Ax<|As<|CX h ?_ ?_<;>intro bu h
  ·refine AI 1 Z<|Ay<|Av<|Aq ?_
   cases h
   refine Al Z ⟨a.ext,Z⟩
  refine Ax<|A3<|As<|Bx 3 Z<|Fs 116 h ?_ ?_<;>intro ab h
  ·iterate 5 refine Ao ab ?_
   refine Ai (AK ab Z)<|A8 1 Z<|Ay ?_
   cases h
   refine Al Z ⟨a.ext,Z⟩
  refine Ab ab<|Ai (Ae Z Aj3 Z JP.e)<|Ab ab<|Ai (Ag 1 Z a Z)<|Ab ab<|Ai (Am Z)<|Ab ab ?_;have bv:Bb w [.box b1 [No a0.f.1,b,AaM a0.f.2.2.1,e,No a0.f.2.2.2.2.1,No a0.f.2.2.2.2.2.1,c] 26,.box b2 [No a0.f.1,b,AaM k,d,No l,No m,c] 26] aj:=a.C1 [1] Z;refine Aw h fun eo bw h=>ES (B0 hH ([.box b2 [No a0.f.1,b,AaM k,d,No l,No m,c] 26]) a0.f.2.2.2.2.2.2 a0 bv (g.mono  Ah) (ae.mono  Ah) (o.mono  Ah) (g.mono  Ah) bw) ?_;rintro _ ep ⟨dv,dw,dx,rfl,bx,dy,c3,c4,c5⟩;refine Ab ab<|Ai (Am Z)<|Ai (AO ab Z)<|A8 1 Z<|Ay ?_
  cases h
  refine Al Z ⟨bx.ext,Z⟩
 refine Aj<|Ai (Ae Z Aj3 Z CR.e)<|Ai (Ag 0 Z a Z)<|Ai (Ae Z Aj3 Z CR.e)<|Ai (Ag 1 Z a Z)<|A8 2 Z<|CX h ?_ ?_<;>intro bz h
 ·refine Ax<|As<|CX h ?_ ?_<;>intro b0 h
  ·refine AI 1 Z<|Ay<|Av<|Aq ?_
   cases h
   refine Al Z ⟨a.ext,Z⟩
  refine Ax<|A3<|As<|Bx 3 Z<|Fs 116 h ?_ ?_<;>intro ac h
  ·iterate 5 refine Ao ac ?_
   refine Ai (AK ac Z)<|A8 1 Z<|Ay ?_
   cases h
   refine Al Z ⟨a.ext,Z⟩
  refine Ab ac<|Ai (Ae Z Aj3 Z JP.e)<|Ab ac<|Ai (Ag 1 Z a Z)<|Ab ac<|Ai (Am Z)<|Ab ac ?_;have b3:Bb w [.box b1 [No a0.f.1,b,AaM a0.f.2.2.1,e,No a0.f.2.2.2.2.1,No a0.f.2.2.2.2.2.1,c] 26,.box b2 [No a0.f.1,b,AaM k,d,No l,No m,c] 26] aj:=a.C1 [1] Z;refine Aw h fun eq b4 h=>ES (B0 hH ([.box b2 [No a0.f.1,b,AaM k,d,No l,No m,c] 26]) a0.f.2.2.2.2.2.2 a0 b3 (g.mono  Ah) (ae.mono  Ah) (o.mono  Ah) (g.mono  Ah) b4) ?_;rintro _ er ⟨dz,d0,d1,rfl,b5,d2,c6,c7,c8⟩;refine Ab ac<|Ai (Am Z)<|Ai (AO ac Z)<|A8 1 Z<|Ay ?_
  cases h
  refine Al Z ⟨b5.ext,Z⟩
 refine Au<|Ai (Ae Z Aj3 Z IF.e)<|Ai (Ag 0 Z a Z)<|Ai (Bm a8)<|Ai (Ae Z Aj3 Z IF.e)<|Ai (Ag 1 Z a Z)<|Ai (Bm o)<|Ar 2 Z<|AL<|As<|CX h ?_ ?_<;>intro b6 h
 ·refine AI 1 Z<|Ay<|Av<|Aq ?_
  cases h
  refine Al Z ⟨a.ext,Z⟩
 refine Ax<|A3<|As<|Bx 3 Z<|Fs 116 h ?_ ?_<;>intro ad h
 ·iterate 5 refine Ao ad ?_
  refine Ai (AK ad Z)<|A8 1 Z<|Ay ?_
  cases h
  refine Al Z ⟨a.ext,Z⟩
 refine Ab ad<|Ai (Ae Z Aj3 Z JP.e)<|Ab ad<|Ai (Ag 1 Z a Z)<|Ab ad<|Ai (Am Z)<|Ab ad ?_;have b7:Bb w [.box b1 [No a0.f.1,b,AaM a0.f.2.2.1,e,No a0.f.2.2.2.2.1,No a0.f.2.2.2.2.2.1,c] 26,.box b2 [No a0.f.1,b,AaM k,d,No l,No m,c] 26] aj:=a.C1 [1] Z;refine Aw h fun es b8 h=>ES (B0 hH ([.box b2 [No a0.f.1,b,AaM k,d,No l,No m,c] 26]) a0.f.2.2.2.2.2.2 a0 b7 (g.mono  Ah) (ae.mono  Ah) (o.mono  Ah) (g.mono  Ah) b8) ?_;rintro _ et ⟨d3,d4,d5,rfl,b9,d6,c9,da,db⟩;refine Ab ad<|Ai (Am Z)<|Ai (AO ad Z)<|A8 1 Z<|Ay ?_
 cases h
 refine Al Z ⟨b9.ext,Z⟩
def FT(a0:Qv)(a:Bool):Option Int:=
 if a then some (4) else(if((decide (a0.f.1=4))&&(decide ((a0.f.2.2.2.1.length:Int)=0))) then some (10) else(if 64<(a0.f.2.2.2.1.length:Int) then some (3) else some (0)))
def FU(a0:Qv):Option Int:=
 Qq4 (Hu a0.f.2.2.1) (fun a=>if a.1=0/\a.2=0 then(if((decide (a0.f.1=3))&&((decide (a0.f.2.2.2.2.1<1))||(decide (2048<a0.f.2.2.2.2.1)))) then(FT a0) ((decide (a0.f.1=3))&&((decide (a0.f.2.2.2.2.1<1))||(decide (2048<a0.f.2.2.2.2.1)))) else(FT a0) ((decide (a0.f.1=6))&&(decide (a0.f.2.2.2.2.2.1<a0.f.2.2.2.2.1)))) else some (a.1))
def Eg(a0:Qv):Int->Option ((Int) ⊕ (Int)):=fun a=>
 if a<(a0.f.2.1.length:Int) then AN (0<=a/\a<(a0.f.2.1.length:Int)) (Qq4 (H9 (a0.f.2.1.getD a.toNat Qq2)) (fun b=>if b.1=0/\b.2=0 then AN (Bz (a+1)) (some (Sum.inl (a+1))) else Qq7 Sum.inr (some (b.1)))) else Qq7 Sum.inr ((FU a0))
def II(a0:Qv)(s:Int):Option Int:=Go.L.run (Eg a0) s
def HI(a0:Qv):Option Int:=
 if((decide (a0.f.1<1))||(decide (10<a0.f.1))) then some (5) else Qq4 (JB a0) (fun a=>if !a then some (6) else(II a0) (0:Int))
theorem R0(hU:Gq H){a0:Qv}{j o p:Value}(y:AJ .st H j (a0.f.2.1))(z:AJ .byte H o (a0.f.2.2.2.1))(ao:AJ .Bu H p (a0.f.2.2.2.2.2.2)){r:Int}(h:HI a0=some r):
  Qqv 62 [.agg #[No a0.f.1,j,AaM a0.f.2.2.1,o,No a0.f.2.2.2.2.1,No a0.f.2.2.2.2.2.1,p]] w (fun v w'=>v=No r):=by
 refine A1 80 [(0,.agg #[No a0.f.1,j,AaM a0.f.2.2.1,o,No a0.f.2.2.2.2.1,No a0.f.2.2.2.2.2.1,p])] func62 Z fun hL=>Aj<|CD (t:=26) Z Z hL fun w1 b1 q bg _=>A8 1 Z<|AB<|Aj<|Ai (Ae Z Aj3 Z CR.e)<|Ai (Ag 0 Z q Z)<|Ar 2 Z<|OU 4 14 (.bool ((decide (a0.f.1<1))||(decide (10<a0.f.1)))) (fun am=>?_) ?_
 ·refine IG (s:=10) Z (fun l=>?_) (fun l=>?_)
  ·iterate 3 refine Ao l ?_
   refine Ai (AK l Z)<|am.to 3 (Wq l) Z Z
  refine Ab l<|Ai (Ae Z Aj3 Z CR.e)<|Ab l<|Ai (Ag 0 Z q Z)<|Ab l<|Ai (Am Z)<|Ai (AO l Z)<|am.to 3 (Wr l) Z Z
 refine Ad<|B8 h ?_ ?_<;>intro a6 h
 ·refine AI 1 Z<|Ay<|Aq ?_
  cases h
  refine Al Z ⟨q.ext,Z⟩
 refine Ax<|As<|AB<|Aj<|Ai (Az 0 Z By.e q Z)<|Aw h fun x6 a7 h=>AD q (Tz (a0:=a0) _ _ (An q) (y.mono  Ah) (z.mono  Ah) (ao.mono  Ah) a7) fun w7 bn ae bh=>A8 1 Z<|B8 h ?_ ?_<;>intro a8 h
 ·refine AI 1 Z<|Ay<|Aq ?_
  cases h
  refine Al Z ⟨ae.ext,Z⟩
 refine Ax<|As<|B2 Unit (fun(_:Unit)=>[(1,(Aad b1))]) (fun(_:Unit) wr=>Bb w [.box b1 [No a0.f.1,j,AaM a0.f.2.2.1,o,No a0.f.2.2.2.2.1,No a0.f.2.2.2.2.2.1,p] 26] wr/\(FU a0)=some r) ?_ ?_
 ·refine Aj<|Ai (Ae Z Aj3 Z Nq.e)<|Ai (Ag 0 Z ae Z)<|Ai (Bm y)<|A8 1 Z<|A4 ?_;obtain⟨af,h⟩:=Ba h;refine B7 (Int×Nat) (fun⟨c,n⟩=>[(1,(Aad b1)),(19,j),(20,No (a0.f.2.1.length:Int)),(21,No c)]) (fun⟨c,n⟩ wr=>Bb w [.box b1 [No a0.f.1,j,AaM a0.f.2.2.1,o,No a0.f.2.2.2.2.1,No a0.f.2.2.2.2.2.1,p] 26] wr/\Ia (Eg a0) n c=some r) (fun⟨c,n⟩=>n) (0,af) Z ⟨ae,h⟩ ?_;rintro⟨c,nn58⟩ bi ⟨u,h⟩;obtain⟨af,bo,rfl,h,aa⟩:=AZ h;refine AI 1 Z<|AB<|AQ h ?_ ?_<;>intro ap h
  ·refine Ax<|As<|AB<|A4<|Aj<|A2 h fun ag h=>Bi y c.toNat (GX ag) (AX ag) ?_;rintro bp _ rfl aq;refine Ai (Bl aq (hH.trans u.arg))<|A8 1 Z<|Bx 1 Z<|Aw h fun bq ar h=>AD u (Kc _ _ (An u) (hU.mono  Ah) ar) fun br bj au ba=>A9 AE.e Z au fun bs bt av bb _=>Af 0 Z av Z fun bu x bc=>Ad<|Aj<|Ai (Az 0 Z AE.e x Z)<|Ai (AT (fun _=>BM _))<|Ai (JO Jh (Nc _ _ _ _))<|Ad<|CX h ?_ ?_<;>intro aw h
   ·refine Aj<|Ai (Ae Z Ajx Z CR.e)<|Ai (Ag 0 Z x Z)<|A8 1 Z<|Ay<|Av<|Aq<|BJ ?_;have h:=Cf.out h aa;refine Av<|Bs ?_
    cases h
    refine Al Z ⟨x.ext,Z⟩
   refine Ax<|A3<|As<|Au<|A2 h fun ax h=>Ai (A7 ax)<|Ar 1 Z<|AL ?_;have ay:=x.AS (i:=0) Z;have h:=Cf.again h aa;refine AM (_,_) Z ⟨ay,h⟩
  refine B4<|AF<|A5 ?_;have h:=Cf.out h aa;refine Bg<|AA () ⟨u,h⟩
 rintro _ bk ⟨ab,h⟩;refine AB<|Aj<|Ai (Ae Z Aj3 Z HO.e)<|Ai (Ag 0 Z ab Z)<|Aw h fun an az h=>AD ab (Lc _ _ (An ab) az) fun bv bl a1 bd=>A9 AE.e Z a1 fun bw a9 a2 be _=>Af 0 Z a2 Z fun bx d bf=>Ad<|Aj<|Ai (Az 0 Z AE.e d Z)<|Ai (AT (fun _=>BM _))<|Ai (JO Jh (Nc _ _ _ _))<|Ad<|CX h ?_ ?_<;>intro a3 h
 ·refine Aj<|Ai (Ae Z Ajx Z CR.e)<|Ai (Ag 0 Z d Z)<|A8 1 Z<|Ay<|Aq ?_
  cases h
  refine Al Z ⟨d.ext,Z⟩
 refine Ax<|As<|AB<|A4<|B2 Bool (fun m=>[(1,(Aad b1)),(41,.bool m)]) (fun m wr=>Bb w [.box a9 [No an.1,No an.2] 28,.box b1 [No a0.f.1,j,AaM a0.f.2.2.1,o,No a0.f.2.2.2.2.1,No a0.f.2.2.2.2.2.1,p] 26] wr/\(FT a0) m=some r) ?_ ?_
 ·refine Aj<|Ai (Ae Z Aj3 Z CR.e)<|Ai (Ag 1 Z d Z)<|Ar 2 Z<|OU 9 54 (.bool ((decide (a0.f.1=3))&&((decide (a0.f.2.2.2.2.1<1))||(decide (2048<a0.f.2.2.2.2.1))))) (fun ah=>?_) ?_
  ·refine IG (s:=45) Z (fun a=>?_) (fun a=>?_)
   ·refine Ab a<|Ai (Ae Z Aj3 Z CR.e)<|Ab a<|Ai (Ag 1 Z d Z)<|Ab a<|Ai (Am Z)<|Ab a<|Ai (Am Z)<|OU 4 53 (.bool ((decide (a0.f.2.2.2.2.1<1))||(decide (2048<a0.f.2.2.2.2.1)))) (fun ai=>?_) ?_
    ·refine IG (s:=49) Z (fun g=>?_) (fun g=>?_)
     ·iterate 3 refine Ao g ?_
      refine Ab a<|Ai (AK g Z)<|ai.to 3 (Wq g) Z Z
     refine Ab g<|Ai (Ae Z Aj3 Z CR.e)<|Ab g<|Ai (Ag 1 Z d Z)<|Ab g<|Ai (Am Z)<|Ab a<|Ai (AO g Z)<|ai.to 3 (Wr g) Z Z
    refine Ai (AK a Z)<|ah.to 5 (AdT a) Z Z
   iterate 4 refine Ao a ?_
   iterate 3 refine L3 ?_
   refine Ao a<|Ai (AO a Z)<|ah.to 8 (AdU a) Z Z
  refine A8 1 Z<|B8 h ?_ ?_<;>intro a4 h
  ·refine Ax<|AA _ ⟨d,h⟩
  refine Au<|Ai (Ae Z Aj3 Z CR.e)<|Ai (Ag 1 Z d Z)<|Ar 2 Z<|OU 6 64 (.bool ((decide (a0.f.1=6))&&(decide (a0.f.2.2.2.2.2.1<a0.f.2.2.2.2.1)))) (fun aj=>?_) ?_
  ·refine IG (s:=58) Z (fun e=>?_) (fun e=>?_)
   ·refine Ab e<|Ai (Ae Z Aj3 Z CR.e)<|Ab e<|Ai (Ag 1 Z d Z)<|Ab e<|Ai (Ae Z Aj3 Z CR.e)<|Ab e<|Ai (Ag 1 Z d Z)<|Ab e<|Ai (Am Z)<|Ai (AK e Z)<|aj.to 5 (AdT e) Z Z
   iterate 5 refine Ao e ?_
   refine Ai (AO e Z)<|aj.to 5 (AdU e) Z Z
  refine Ar 1 Z<|AL<|AA _ ⟨d,h⟩
 rintro m bm ⟨k,h⟩;refine B8 h ?_ ?_<;>intro a5 h
 ·refine AI 1 Z<|Ay<|Av<|Aq ?_
  cases h
  refine Al Z ⟨k.ext,Z⟩
 refine Aj<|Ai (Ae Z Aj3 Z CR.e)<|Ai (Ag 1 Z k Z)<|Ar 2 Z<|OU 5 74 (.bool ((decide (a0.f.1=4))&&(decide ((a0.f.2.2.2.1.length:Int)=0)))) (fun ac=>?_) ?_
 ·refine IG (s:=69) Z (fun b=>?_) (fun b=>?_)
  ·refine Ab b<|Ai (Ae Z Aj3 Z IF.e)<|Ab b<|Ai (Ag 1 Z k Z)<|Ab b<|Ai (Bm z)<|Ab b<|Ai (Am Z)<|Ai (AK b Z)<|ac.to 4 (AdT b) Z Z
  iterate 4 refine Ao b ?_
  refine Ai (AO b Z)<|ac.to 4 (AdU b) Z Z
 refine A8 1 Z<|B8 h ?_ ?_<;>intro ak h
 ·refine AI 1 Z<|Ay<|Av<|Aq ?_
  cases h
  refine Al Z ⟨k.ext,Z⟩
 refine Aj<|Ai (Ae Z Aj3 Z IF.e)<|Ai (Ag 1 Z k Z)<|Ai (Bm z)<|A8 2 Z<|AQ h ?_ ?_<;>intro al h
 ·refine AI 1 Z<|Ay<|Av<|Aq ?_
  cases h
  refine Al Z ⟨k.ext,Z⟩
 refine Ax<|A3<|As<|AI 1 Z<|Ay ?_
 cases h
 refine Al Z ⟨k.ext,Z⟩
end
def I1(a:Int):Option Aki:=
 some (a,(0,0))
def E8(a0:Qv)(a2:Int)(self:Qv->Int->Int->Option Aki):Int×Int->Option ((Int×Int) ⊕ Aki):=fun⟨c,a⟩=>
 if a<(a0.f.2.2.2.2.2.2.length:Int) then AN (0<=a/\a<(a0.f.2.2.2.2.2.2.length:Int)) (AN (Bz (a2+1)) (Qq4 (self (a0.f.2.2.2.2.2.2.getD a.toNat Qq2) c (a2+1)) (fun b=>if b.2.1=0/\b.2.2=0 then AN (Bz (a+1)) (some (Sum.inl (b.1,(a+1)))) else Qq7 Sum.inr (some (0,(b.2.1,b.2.2)))))) else Qq7 Sum.inr (I1 c)
def Kg(a0:Qv)(a2:Int)(self:Qv->Int->Int->Option Aki)(s:Int×Int):Option Aki:=Go.L.run (E8 a0 a2 self) s
def F5(self:Qv->Int->Int->Option Aki)(a0:Qv)(a1 a2:Int):Option Aki:=
 if(40<=a1)\/(8<a2) then Qq4 (Cn (2:Int) a1) (fun b=>some (0,(b.1,b.2))) else Qq4 (HI a0) (fun c=>if c=0 then AN (Bz (a1+1)) ((Kg a0 a2 self) ((a1+1),0)) else Qq4 (Cn c a1) (fun a=>some (0,(a.1,a.2))))
def Kh(self:Qv->Int->Int->Option Aki):Prop:=∀ (w:World) (H:PH) (hH:Le H (hp w)) (hU:Gq H) {a0:Qv} {a1:Int} {a2:Int} {a:Value} {b:Value} {c:Value} (d:AJ .st H a (a0.f.2.1)) (e:AJ .byte H b (a0.f.2.2.2.1)) (g:AJ .Bu H c (a0.f.2.2.2.2.2.2)) {r:Int×(Int×Int)} (h:self a0 a1 a2=some r),Ok prog 32 [.agg #[No a0.f.1,a,AaM a0.f.2.2.1,b,No a0.f.2.2.2.2.1,No a0.f.2.2.2.2.2.1,c],No a1,No a2] w (fun v w'=>Ext w w'/\v=.tuple #[No r.1,.agg #[No r.2.1,No r.2.2]])
def F6:Nat->Qv->Int->Int->Option Aki
 | 0=>fun _ _ _=>none
 | n+1=>F5 (F6 n)
def Mb:Qv->Int->Int->Option Aki:=F6 1000
theorem QI(self:Qv->Int->Int->Option Aki)(hself:Kh self):Kh (F5 self):=by
 intro w H hH hU a0 a1 a2 l m d an ao o r h;unfold Kh at hself;refine A1 52 [(0,.agg #[No a0.f.1,l,AaM a0.f.2.2.1,m,No a0.f.2.2.2.2.1,No a0.f.2.2.2.2.2.1,d]),(1,No a1),(2,No a2)] func32 Z fun hL=>Aj<|CD (t:=26) Z Z hL fun w1 b1 a5 bl _=>Ar 1 Z<|A9 AE.e Z a5 fun w2 b2 k bm _=>Ad<|AB<|Bx 3 Z<|Y3 2 2 Z Z Z Z Z Z<|Ad<|AQ h ?_ ?_<;>intro a6 h
 ·refine Bx 1 Z<|Aw h fun x5 a7 h=>AD k (CE _ _ (An k) a7) fun w6 b4 a8 bn=>Ar 1 Z<|Af 0 Z a8 Z fun w7 am bo=>Ad<|Ay<|Aq ?_
  cases h
  refine Bo (.tmp Z) (.cell Z Ajx Z AE.e (AG (i:=0) am Z)) ⟨am.ext,Z⟩
 refine Ax<|As<|AB<|Aj<|Ai (Az 1 Z By.e k Z)<|Aw h fun x9 a9 h=>AD k (R0 (a0:=a0) _ _ (An k) (hU.mono  Ah) (an.mono  Ah) (ao.mono  Ah) (o.mono  Ah) a9) fun b5 bp e bf=>A8 1 Z<|AI 2 Z<|CX h ?_ ?_<;>intro ap h
 ·refine Bx 2 Z<|Aw h fun b6 aq h=>AD e (CE _ _ (An e) aq) fun b7 bq ar bg=>Ar 1 Z<|Af 0 Z ar Z fun b8 y bh=>Ad<|Ay<|Aq ?_
  cases h
  refine Bo (.tmp Z) (.cell Z Ajx Z AE.e (AG (i:=0) y Z)) ⟨y.ext,Z⟩
 refine Ax<|As<|Bx 1 Z<|A2 h fun au h=>Ai (A7 au)<|A8 1 Z<|B2 Int (fun c=>[(7,(Aad b2)),(9,No c)]) (fun c wr=>Bb w [.box b2 [No 0,No 0] 28,.box b1 [No a0.f.1,l,AaM a0.f.2.2.1,m,No a0.f.2.2.2.2.1,No a0.f.2.2.2.2.2.1,d] 26] wr/\I1 c=some r) ?_ ?_
 ·refine Aj<|Ai (Ae Z Aj3 Z JP.e)<|Ai (Ag 1 Z e Z)<|Ai (Bm o)<|A8 1 Z<|A4 ?_;obtain⟨z,h⟩:=Ba h;refine B7 (Int×Int×Nat) (fun⟨b,a,n⟩=>[(2,No a2),(7,(Aad b2)),(9,No b),(31,d),(32,No (a0.f.2.2.2.2.2.2.length:Int)),(33,No a)]) (fun⟨b,a,n⟩ wr=>Bb w [.box b2 [No 0,No 0] 28,.box b1 [No a0.f.1,l,AaM a0.f.2.2.1,m,No a0.f.2.2.2.2.1,No a0.f.2.2.2.2.2.1,d] 26] wr/\Ia (E8 a0 a2 self) n (b,a)=some r) (fun⟨b,a,n⟩=>n) ((a1+1),0,z) Z ⟨e,h⟩ ?_;rintro⟨b,a,nn92⟩ br ⟨p,h⟩;obtain⟨z,b9,rfl,h,s⟩:=AZ h;refine AI 1 Z<|AB<|AQ h ?_ ?_<;>intro av h
  ·refine Ax<|As<|AB<|A4<|Aj<|A2 h fun aa h=>Bi o a.toNat (GX aa) (AX aa) ?_;rintro ca _ e96t0 aw;obtain⟨_,_,rfl,rfl,⟨_,_,rfl,⟨e96v1,rfl,e96h1⟩,⟨_,_,rfl,rfl,⟨_,_,rfl,⟨e96v3,rfl,e96h3⟩,⟨_,_,rfl,rfl,⟨_,_,rfl,rfl,⟨e96v6,rfl,e96h6⟩⟩⟩⟩⟩⟩⟩:=Go.E.Rp.HQ e96t0;refine Ai (Cz aw (hH.trans p.arg))<|A9 By.e Z p fun cb cc ax bi _=>Af 0 Z ax Z (a:=(Bk Z (Bk e96h1.one (Bk Z (Bk e96h3.one (Bk Z (Bk Z (Bk e96h6.one Kq)))))))) fun cd ay bj=>Ad<|Aj<|A9 AE.e Z ay fun bs bt g ba _=>Ad<|Aj<|Ai (Az 1 Z By.e g Z)<|Ar 2 Z<|A2 h fun ac h=>Ai (A7 ac)<|Aw h fun az ad h=>AD g (hself _ _ (An g) (hU.mono  Ah) (e96h1.mono  Ah) (e96h3.mono  Ah) (e96h6.mono  Ah) ad) fun bu bk ae bb=>Ar 4 Z<|Af 0 Z ae Z fun bv j bc=>Ad<|Aj<|Ai (Az 0 Z AE.e j Z) ?_
   refine Ai (AT (fun _=>BM _))<|Ai (JO Jh (Nc _ _ _ _))<|Ad<|CX h ?_ ?_<;>intro af h
   ·refine Ex (.q 0 (.q 1 (.tail 2))) mixed Qqb (fun bw ag=>?_);have u:=j.call ag;refine CB Z (Az 0 Z AE.e u Z) Z<|D4 1 Z<|BT (fun bx ah=>?_);have ai:=u.call ah;refine Af 2 Z ai Z fun bz v bd=>Ad<|Ay<|Av<|Aq<|BJ ?_;have h:=Cf.out h s;refine Av<|Bs ?_
    cases h
    refine Bo (.tmp Z) (.cell Z Ajx Z AE.e (AG (i:=2) v Z)) ⟨v.ext,Z⟩
   refine Ax<|A3<|As<|Au<|A2 h fun aj h=>Ai (A7 aj)<|Ar 1 Z<|AL ?_;have ak:=j.AS (i:=0) Z;have al:=ak.AS (i:=0) Z;have h:=Cf.again h s;refine AM (_,_,_) Z ⟨al,h⟩
  refine B4<|AF<|A5 ?_;have h:=Cf.out h s;refine Bg<|AA _ ⟨p,h⟩
 rintro c b0 ⟨a3,h⟩;refine Bx 1 Z<|Ai (AT (fun _=>BM _))<|Ar 1 Z<|Af 0 Z a3 Z fun b3 x be=>Ad<|Ay ?_
 cases h
 refine Bo (.tmp Z) (.cell Z Ajx Z AE.e (AG (i:=0) x Z)) ⟨x.ext,Z⟩
theorem SG(n:Nat):Kh (F6 n):=by
 induction n with
 | zero=>unfold Kh;intros;rename_i h;cases h
 | succ n ih=>exact QI (F6 n) ih
section
variable(w:World)(H:PH)(hH:Le H (hp w)) include hH
theorem Ut(hU:Gq H){a0:Qv}{a1 a2:Int}{a b c:Value}(d:AJ .st H a (a0.f.2.1))(e:AJ .byte H b (a0.f.2.2.2.1))(g:AJ .Bu H c (a0.f.2.2.2.2.2.2)){r:Int×(Int×Int)}(h:Mb a0 a1 a2=some r):Ok prog 32 [.agg #[No a0.f.1,a,AaM a0.f.2.2.1,b,No a0.f.2.2.2.2.1,No a0.f.2.2.2.2.2.1,c],No a1,No a2] w (fun v w'=>Ext w w'/\v=.tuple #[No r.1,.agg #[No r.2.1,No r.2.2]]):=SG 1000 w H hH hU d e g h
def IZ(a:AaV):Option AaV:=
 AN (Go.E.HK 1 (a.length+([(39:UInt8)]).length)) (some ((a++[(39:UInt8)])))
def E5(a0:AaV):AaV×Int->Option ((AaV×Int) ⊕ (AaV)):=fun⟨b,a⟩=>
 if a<(a0.length:Int) then AN (0<=a/\a<(a0.length:Int)) (if(((((a0.getD a.toNat Qq2).toNat:Int)=92)\/(((a0.getD a.toNat Qq2).toNat:Int)=39))\/(((a0.getD a.toNat Qq2).toNat:Int)<32))\/(126<((a0.getD a.toNat Qq2).toNat:Int)) then AN (0<=((a0.getD a.toNat Qq2 >>> (4:UInt8)).toNat:Int)/\((a0.getD a.toNat Qq2 >>> (4:UInt8)).toNat:Int)<(([48,49,50,51,52,53,54,55,56,57,97,98,99,100,101,102]:AaV).length:Int)) (AN (0<=((a0.getD a.toNat Qq2 &&& (15:UInt8)).toNat:Int)/\((a0.getD a.toNat Qq2 &&& (15:UInt8)).toNat:Int)<(([48,49,50,51,52,53,54,55,56,57,97,98,99,100,101,102]:AaV).length:Int)) (AN (Go.E.HK 1 (b.length+([(92:UInt8),(([48,49,50,51,52,53,54,55,56,57,97,98,99,100,101,102]:AaV).getD ((a0.getD a.toNat Qq2 >>> (4:UInt8)).toNat:Int).toNat Qq2),(([48,49,50,51,52,53,54,55,56,57,97,98,99,100,101,102]:AaV).getD ((a0.getD a.toNat Qq2 &&& (15:UInt8)).toNat:Int).toNat Qq2)]).length)) (AN (Bz (a+1)) (some (Sum.inl ((b++[(92:UInt8),(([48,49,50,51,52,53,54,55,56,57,97,98,99,100,101,102]:AaV).getD ((a0.getD a.toNat Qq2 >>> (4:UInt8)).toNat:Int).toNat Qq2),(([48,49,50,51,52,53,54,55,56,57,97,98,99,100,101,102]:AaV).getD ((a0.getD a.toNat Qq2 &&& (15:UInt8)).toNat:Int).toNat Qq2)]),(a+1))))))) else AN (Go.E.HK 1 (b.length+([a0.getD a.toNat Qq2]).length)) (AN (Bz (a+1)) (some (Sum.inl ((b++[a0.getD a.toNat Qq2]),(a+1)))))) else Qq7 Sum.inr (IZ b)
def Kw(a0:AaV)(s:AaV×Int):Option AaV:=Go.L.run (E5 a0) s
def IC(a0:AaV):Option AaV:=
 (Kw a0) ([(39:UInt8)],0)
theorem Pd{a0:AaV}{p:Value}(ab:AJ .byte H p a0){r:AaV}(h:IC a0=some r):
  Qqv 65 [p] w (fun v w'=>v=(AaM r)):=by
 refine A1 45 [(0,p)] func65 Z fun hL=>AI 1 Z<|Aj<|O7 [(39:UInt8)] (r:=.byte) (fun _=>S1 _ _) (BI 1) hH hL (.c1 Z .nil) fun v1 w1 bb bc bm bd=>A8 1 Z<|B2 (AaV×Value×(List Value)) (fun⟨o,s,j⟩=>[(3,s)]) (fun⟨o,s,j⟩ wr=>FX w [.row s 5 1 (o).length j] wr fun Oz=>AH .byte (gz H w wr Oz) o j/\IZ o=some r) ?_ ?_
 ·refine Bx 1 Z<|Ai (Bm ab)<|A8 1 Z<|A4 ?_;obtain⟨y,h⟩:=Ba h;refine B7 (AaV×Int×Value×(List Value)×Nat) (fun⟨e,a,g,f,n⟩=>[(3,g),(7,p),(8,No (a0.length:Int)),(9,No a)]) (fun⟨e,a,g,f,n⟩ wr=>FX w [.row g 5 1 (e).length f] wr fun Oz=>AH .byte (gz H w wr Oz) e f/\Ia (E5 a0) n (e,a)=some r) (fun⟨e,a,g,f,n⟩=>n) ([(39:UInt8)],0,v1,bb,y) Z ⟨bc,bd,h⟩ ?_;rintro⟨e,a,g,f,nn79⟩ bn ⟨k,d,h⟩;obtain⟨y,bv,rfl,h,u⟩:=AZ h;refine AI 1 Z<|AB<|AQ h ?_ ?_<;>intro aq h
  ·refine Ax<|As<|AB<|A4<|Aj<|A2 h fun ac h=>Bi ab a.toNat (GX ac) (AX ac) ?_;rintro bw _ rfl ar;refine Ai (Bl ar (hH.trans k.arg))<|A8 1 Z<|Bx 3 Z<|Y3 2 2 Z Z Z Z Z Z<|Ar 1 Z<|Y3 2 6 Z Z Z Z Z Z<|Ar 1 Z<|Y3 2 10 Z Z Z Z Z Z<|Ad<|AQ h ?_ ?_<;>intro au h
   ·refine Pw (Qqz 0 7 (.h 7 (.tail 8))) mixed Qqb (fun bx ad=>?_);have av:=k.call ad;have ah:=AR k ad;refine D4 2 Z<|CB Z (AhR (c:=4) Z Qqc) Z<|A2 h fun aw h=>CB Z (NQ aw) Z<|D4 1 Z<|CB Z (Ads (b:=15) Z Z Z) Z<|A2 h fun ax h=>CB Z (NQ ax) Z<|Q0 ([(92:UInt8),(([48,49,50,51,52,53,54,55,56,57,97,98,99,100,101,102]:AaV).getD ((a0.getD a.toNat Qq2 >>> (4:UInt8)).toNat:Int).toNat Qq2),(([48,49,50,51,52,53,54,55,56,57,97,98,99,100,101,102]:AaV).getD ((a0.getD a.toNat Qq2 &&& (15:UInt8)).toNat:Int).toNat Qq2)]) (r:=.byte) Z Z (fun _=>Ab0 _ _ _ _) Z (BI 3) hH av (.c1 Z (.c1 Z (.c1 Z .nil))) fun bz b0 bo ae ai x=>BT (fun b1 af=>?_);have ay:=ae.call af;have z:=AR ae af;refine A2 h fun az h=>?_;have d:=d.mono (Aa (ah.trans (ai.trans z)));have x:=x.mono (Aa z)
    refine Bt (r:=.byte) 0 e ([(92:UInt8),(([48,49,50,51,52,53,54,55,56,57,97,98,99,100,101,102]:AaV).getD ((a0.getD a.toNat Qq2 >>> (4:UInt8)).toNat:Int).toNat Qq2),(([48,49,50,51,52,53,54,55,56,57,97,98,99,100,101,102]:AaV).getD ((a0.getD a.toNat Qq2 &&& (15:UInt8)).toNat:Int).toNat Qq2)]) Z Af7 ay Z d x az fun be b2 a1 a2 bh a3=>Ar 1 Z<|AL<|A3<|As<|Au<|A2 h fun a4 h=>Ai (A7 a4)<|Ar 1 Z<|AL ?_;have h:=Cf.again h u;refine AM (_,_,_,_,_) Z ⟨a2,a3,h⟩
   refine Au<|Ar 2 Z<|B9 [a0.getD a.toNat Qq2] (r:=.byte) (fun _=>S1 _ _) k (.c1 Z .nil) fun b3 b4 bp a5 aj a6=>A2 h fun ak h=>?_;have d:=d.mono (Aa aj);refine Bt (r:=.byte) 0 e [a0.getD a.toNat Qq2] Z Af7 a5 Z d a6 ak fun bf b5 a7 a8 bi a9=>Ar 1 Z<|AL<|A3<|As<|Au<|A2 h fun al h=>Ai (A7 al)<|Ar 1 Z<|AL ?_;have h:=Cf.again h u;refine AM (_,_,_,_,_) Z ⟨a8,a9,h⟩
  refine B4<|AF<|A5 ?_;have h:=Cf.out h u;refine Bg<|AA (_,_,_) ⟨k,d,h⟩
 rintro⟨o,s,j⟩ bq ⟨ba,t,h⟩;refine Bx 1 Z<|B9 [(39:UInt8)] (r:=.byte) (fun _=>S1 _ _) ba (.c1 Z .nil) fun br bs bj am ag an=>A2 h fun ao h=>?_;have t:=t.mono (Aa ag);refine Bt (r:=.byte) 0 o [(39:UInt8)] Z Af7 am Z t an ao fun bt bu bk aa bg ap=>Ai (UX (aa.RU hH (i:=0) Z ap) (Le.refl _))<|A8 1 Z<|Ay ?_
 cases h
 refine Al Z ⟨aa.ext,Z⟩
end
def GS(a0:Qv)(b:(List AaV))(c:AaV)(a:List Qv):Option (Qv):=
 some ((Qv.mk a0.f.1 b a0.f.2.2.1 c a0.f.2.2.2.2.1 a0.f.2.2.2.2.2.1 a))
def Gi(a0:Qv)(self:Qv->Option (Qv))(d:(List AaV))(e:AaV):(List Qv)×Int->Option (((List Qv)×Int) ⊕ (Qv)):=fun⟨b,a⟩=>
 if a<(a0.f.2.2.2.2.2.2.length:Int) then AN (0<=a/\a<(a0.f.2.2.2.2.2.2.length:Int)) (Qq4 (self (a0.f.2.2.2.2.2.2.getD a.toNat Qq2)) (fun c=>AN (Go.E.HK 112 (b.length+([c]).length)) (AN (Bz (a+1)) (some (Sum.inl ((b++[c]),(a+1))))))) else Qq7 Sum.inr ((GS a0 d e) b)
def Ki(a0:Qv)(self:Qv->Option (Qv))(a:(List AaV))(b:AaV)(s:(List Qv)×Int):Option (Qv):=Go.L.run (Gi a0 self a b) s
def F7(self:Qv->Option (Qv))(a0:Qv):Option (Qv):=
 Qq4 (Cv a0.f.2.1) (fun a=>Qq4 (Em a0.f.2.2.2.1) (fun b=>(Ki a0 self a b) (([]:List Qv),0)))
def Kj(self:Qv->Option (Qv)):Prop:=∀ (w:World) (H:PH) (hH:Le H (hp w)) {a0:Qv} {a:Value} {b:Value} {c:Value} (i:AJ .st H a (a0.f.2.1)) (j:AJ .byte H b (a0.f.2.2.2.1)) (k:AJ .Bu H c (a0.f.2.2.2.2.2.2)) {r:Qv} (h:self a0=some r),Ok prog 96 [.agg #[No a0.f.1,a,AaM a0.f.2.2.1,b,No a0.f.2.2.2.2.1,No a0.f.2.2.2.2.2.1,c]] w (fun v w'=>Ext w w'/\∃ d e g,v=.agg #[No r.f.1,d,AaM r.f.2.2.1,e,No r.f.2.2.2.2.1,No r.f.2.2.2.2.2.1,g]/\AJ .st (un H (nw w w')) d (r.f.2.1)/\AJ .byte (un H (nw w w')) e (r.f.2.2.2.1)/\Ck 26 .Bu H w w' g (r.f.2.2.2.2.2.2))
def Ja:Nat->Qv->Option (Qv)
 | 0=>fun _=>none
 | n+1=>F7 (Ja n)
def Kx:Qv->Option (Qv):=Ja 1000
theorem QJ(self:Qv->Option (Qv))(hself:Kj self):Kj (F7 self):=by
 intro w H hH a0 ci cj be ck cl bf r h;unfold Kj at hself;refine A1 32 [(0,.agg #[No a0.f.1,ci,AaM a0.f.2.2.1,cj,No a0.f.2.2.2.2.1,No a0.f.2.2.2.2.2.1,be])] func96 Z fun hL=>Aj<|CD (t:=26) Z Z hL fun w1 b1 ct c3 _=>A9 By.e Z ct fun w2 b2 cu c4 _=>Ad<|Ex (.q 0 (.q 1 (.q 3 (.q 4 (.h 2 (.q 6 (.h 5 (.tail 7)))))))) mixed Qqb (fun w3 cv=>?_);have ax:=cu.call cv;refine CB Z (Ae Z Aj3 Z Nq.e) Z<|CB Z (Ag 1 Z ax Z) Z<|CB Z (Ae Z Aj3 Z IF.e) Z<|CB Z (Ag 1 Z ax Z) Z<|Aw h fun x5 cw h=>Cj Z Z Z (fun w7 bg=>GP _ _ (An (ax.call bg)) (ck.mono  Ah) cw) ?_;rintro w7 ah w6 bg bh ⟨_,rfl,b0⟩;have bi:=ax.call bg;have bj:=bi.call bh;have c6:=AR bi bh;have b:=b0.Du hH bi bh;refine CB Z (Ae Z Aj3 Z Nq.e) Z<|Aw h fun x9 cx h=>Cj Z Z Z (fun cy ai=>K4 _ _ (An (bj.call ai)) (cl.mono  Ah) cx) ?_;rintro cy ae dm ai au ⟨_,rfl,bk⟩;have av:=bj.call ai;have b4:=AR bj ai
 have b:=b.mono (Aa b4);have bl:=av.call au;have b5:=AR av au;have c:=bk.Du hH av au;have b:=b.mono (Aa b5);refine BT (fun dn bm=>?_);have cm:=bl.call bm;have ay:=AR bl bm;have b:=b.mono (Aa ay);have c:=c.mono (Aa ay);refine B5 1 Z b.one cm Z Z ?_;intro dp cn az;have b:=b.mono (Aa az);have c:=c.mono (Aa az);refine Ai (Ae Z Aj3 Z IF.e)<|B5 1 Z c.one cn Z Z ?_;intro dq bn a1;have b:=b.mono (Aa a1);have c:=c.mono (Aa a1);refine Ad<|Aj<|Ai (Ae Z Aj3 Z JP.e)<|Ai (Ag 1 Z bn Z)<|A8 1 Z<|Aj<|Ai (Ae Z Aj3 Z JP.e)<|B5 1 Z Z bn Z Z ?_;intro dr co a2;have b:=b.mono (Aa a2);have c:=c.mono (Aa a2);refine Ad ?_
 refine B2 ((List Qv)×Value×(List Value)) (fun⟨an,aj,af⟩=>[(1,(Aad b1)),(2,(Aad b2))]) (fun⟨an,aj,af⟩ wr=>FX w [.row aj 26 7 (an).length af,.box b2 AbM 26,.box b1 [No a0.f.1,ah,AaM a0.f.2.2.1,ae,No a0.f.2.2.2.2.1,No a0.f.2.2.2.2.2.1,aj] 26] wr fun Oz=>AH .Bu (gz H w wr Oz) an af/\AJ .st (gz H w wr Oz) ah x5/\AJ .byte (gz H w wr Oz) ae x9/\(GS a0 x5 x9) an=some r) ?_ ?_
 ·refine Bx 1 Z<|Ai (Bm bf)<|A8 1 Z<|A4 ?_;obtain⟨cp,a3,cq⟩:=DI .Bu H 26 co;have b:=b.mono (Aa a3);have c:=c.mono (Aa a3);obtain⟨bo,h⟩:=Ba h;refine B7 ((List Qv)×Int×Value×(List Value)×Nat) (fun⟨x,j,ad,v,n⟩=>[(1,(Aad b1)),(2,(Aad b2)),(17,be),(18,No (a0.f.2.2.2.2.2.2.length:Int)),(19,No j)]) (fun⟨x,j,ad,v,n⟩ wr=>FX w [.row ad 26 7 (x).length v,.box b2 AbM 26,.box b1 [No a0.f.1,ah,AaM a0.f.2.2.1,ae,No a0.f.2.2.2.2.1,No a0.f.2.2.2.2.2.1,ad] 26] wr fun Oz=>AH .Bu (gz H w wr Oz) x v/\AJ .st (gz H w wr Oz) ah x5/\AJ .byte (gz H w wr Oz) ae x9/\Ia (Gi a0 self x5 x9) n (x,j)=some r) (fun⟨x,j,ad,v,n⟩=>n) (([]:List Qv),0,Aac,[],bo) Z ⟨cp,cq,b,c,h⟩ ?_;rintro⟨x,j,ad,v,nn97⟩ c8 ⟨ak,a4,ao,ap,h⟩;obtain⟨bo,ds,rfl,h,bp⟩:=AZ h;have a:=ak.rG H;refine AI 1 Z<|AB ?_
  refine AQ h ?_ ?_<;>intro b6 h
  ·refine Ax<|As<|AB<|A4<|Aj<|A2 h fun a5 h=>Bi bf j.toNat (GX a5) (AX a5) ?_;rintro c9 _ e103t0 b7;obtain⟨_,_,rfl,rfl,⟨_,_,rfl,⟨e103v1,rfl,e103h1⟩,⟨_,_,rfl,rfl,⟨_,_,rfl,⟨e103v3,rfl,e103h3⟩,⟨_,_,rfl,rfl,⟨_,_,rfl,rfl,⟨e103v6,rfl,e103h6⟩⟩⟩⟩⟩⟩⟩:=Go.E.Rp.HQ e103t0;refine Ai (Cz b7 (hH.trans ak.arg))<|A9 By.e Z ak ?_;intro da db b8 bq _;have a:=a.trans (Aa bq);refine Af 0 Z b8 Z (a:=(Bk Z (Bk e103h1.one (Bk Z (Bk e103h3.one (Bk Z (Bk Z (Bk e103h6.one Kq)))))))) ?_;intro dc a6 br;have a:=a.trans (Aa br);refine Ad<|Pw (Qqz 0 3 (.h 3 (.h 4 (.tail 5)))) mixed Qqb (fun dd a7=>?_);have y:=a6.call a7;have bs:=AR a6 a7;have a:=a.trans (Aa bs);refine CB Z (Ae Z Aj3 Z JP.e) Z<|CB Z (Ag 3 Z y Z) Z<|CB Z (Az 0 Z By.e y Z) Z<|Aw h fun aw b9 h=>?_
   refine Cj Z Z Z (fun cr ag=>hself _ _ (An (y.call ag)) (e103h1.mono  Ah) (e103h3.mono  Ah) (e103h6.mono  Ah) b9) ?_;rintro cr _ de ag z ⟨cz,c0,c1,rfl,bb,bc,bd⟩;have aa:=y.call ag;have bt:=AR y ag;have a:=a.trans (Aa bt);have ca:=aa.call z;have bu:=AR aa z;have d:=bb.mono (Dt aa z);have e:=bc.mono (Dt aa z);have g:=bd.Du hH aa z;have a:=a.trans (Aa bu);refine Q0 [aw] (r:=.Bu) Z Z (fun _=>N5 _ _ _ _ _ _ _ _) Z (BI 1) hH ca (.c7 (Go.E.Rp.H8 ⟨_,_,Z,Z,⟨_,_,Z,⟨_,Z,d⟩,⟨_,_,Z,Z,⟨_,_,Z,⟨_,Z,e⟩,⟨_,_,Z,Z,⟨_,_,Z,Z,⟨_,Z,g⟩⟩⟩⟩⟩⟩⟩) .nil) ?_;intro df dg c2 a8 ab o;have d:=d.mono (Aa ab);have e:=e.mono (Aa ab);have g:=g.mono (Aa ab);have a:=a.trans (Aa ab);refine BT (fun dh a9=>?_);have cb:=a8.call a9;have s:=AR a8 a9;have d:=d.mono (Aa s);have e:=e.mono (Aa s);have g:=g.mono (Aa s);have o:=o.mono (Aa s)
   have a:=a.trans (Aa s);refine A2 h fun cc h=>Bt (r:=.Bu) 1 x [aw] Z AjP cb Z (a4.mono a) o cc ?_;intro cs di cd ba u ac;have d:=d.mono (Aa u);have e:=e.mono (Aa u);have g:=g.mono (Aa u);have o:=o.mono (Aa u);have a:=a.trans (Aa u);refine Ai (Ae Z Aj3 Z JP.e)<|B5 3 Z (row_one (ba.at (i:=1) Z)) ba Z Z ?_;intro dj ce k;have d:=d.mono (Aa k);have e:=e.mono (Aa k);have g:=g.mono (Aa k);have o:=o.mono (Aa k);have ac:=ac.mono (Aa k);have a:=a.trans (Aa k);refine AL<|A3<|As<|Au<|A2 h fun cf h=>Ai (A7 cf)<|Ar 1 Z<|AL ?_;have cg:=ce.AS (i:=0) Z;have ac:=ac.mono (Aa (Ak (i:=0) Z));have a:=a.trans (Aa (Ak (i:=0) Z));have h:=Cf.again h bp
   refine AM (_,_,_,_,_) Z ⟨cg,ac,(ao.mono a),(ap.mono a),h⟩
  refine B4<|AF<|A5 ?_;have h:=Cf.out h bp;refine Bg<|AA (_,_,_) ⟨ak,(a4.mono a),(ao.mono a),(ap.mono a),h⟩
 rintro⟨an,aj,af⟩ dk ⟨al,ch,aq,ar,h⟩;have p:=al.rG H;refine Aj<|Ai (Az 2 Z By.e al Z)<|Af 1 Z al Z (a:=(Bk Z (Bk (aq.mono p).one (Bk Z (Bk (ar.mono p).one (Bk Z (Bk Z (Bk (row_one (al.at (i:=0) Z)) Kq)))))))) ?_;intro dl am bv;have p:=p.trans (Aa bv);refine Ad<|Ay ?_
 cases h
 refine Dz (.cell Z Aj3 Z By.e (AG (i:=1) am Z)) ⟨am.ext,_,_,_,Z,((aq.mono p).mono  EE),((ar.mono p).mono  EE),(am.Iq hH (i:=0) Z (ch.mono p))⟩
theorem SH(n:Nat):Kj (Ja n):=by
 induction n with
 | zero=>unfold Kj;intros;rename_i h;cases h
 | succ n ih=>exact QJ (Ja n) ih
section
variable(w:World)(H:PH)(hH:Le H (hp w)) include hH
theorem PW{a0:Qv}{a b c:Value}(d:AJ .st H a (a0.f.2.1))(e:AJ .byte H b (a0.f.2.2.2.1))(g:AJ .Bu H c (a0.f.2.2.2.2.2.2)){r:Qv}(h:Kx a0=some r):Ok prog 96 [.agg #[No a0.f.1,a,AaM a0.f.2.2.1,b,No a0.f.2.2.2.2.1,No a0.f.2.2.2.2.2.1,c]] w (fun v w'=>Ext w w'/\∃ i j k,v=.agg #[No r.f.1,i,AaM r.f.2.2.1,j,No r.f.2.2.2.2.1,No r.f.2.2.2.2.2.1,k]/\AJ .st (un H (nw w w')) i (r.f.2.1)/\AJ .byte (un H (nw w w')) j (r.f.2.2.2.1)/\Ck 26 .Bu H w w' k (r.f.2.2.2.2.2.2)):=SH 1000 w H hH d e g h
end
def Ii(b:Int)(a:List Qv):Option (Qv):=
 some ((Qv.mk b ([]) ([]:AaV) ([]) (0:Int) (0:Int) a))
def Er(a0:Qv)(a1:Bool)(d:Int)(self:Qv->Bool->Option (Qv)):(List Qv)×Int->Option (((List Qv)×Int) ⊕ (Qv)):=fun⟨b,a⟩=>
 if a<(a0.f.2.2.2.2.2.2.length:Int) then AN (0<=a/\a<(a0.f.2.2.2.2.2.2.length:Int)) (Qq4 (self (a0.f.2.2.2.2.2.2.getD a.toNat Qq2) a1) (fun c=>if c.f.1=d then AN (Go.E.HK 112 (b.length+c.f.2.2.2.2.2.2.length)) (AN (Bz (a+1)) (some (Sum.inl ((b++c.f.2.2.2.2.2.2),(a+1))))) else AN (Go.E.HK 112 (b.length+([c]).length)) (AN (Bz (a+1)) (some (Sum.inl ((b++[c]),(a+1))))))) else Qq7 Sum.inr ((Ii d) b)
def JE(a0:Qv)(a1:Bool)(a:Int)(self:Qv->Bool->Option (Qv))(s:(List Qv)×Int):Option (Qv):=Go.L.run (Er a0 a1 a self) s
def E9(a0:Qv)(a1:Bool)(self:Qv->Bool->Option (Qv))(a:Int):Option (Qv):=
 (JE a0 a1 a self) (([]:List Qv),0)
def Cw(self:Qv->Bool->Option (Qv))(a0:Qv)(a1:Bool):Option (Qv):=
 if a0.f.1=10 then AN (0<=(0:Int)/\(0:Int)<(a0.f.2.2.2.2.2.2.length:Int)) (Qq4 (self (a0.f.2.2.2.2.2.2.getD ((0:Int).toNat) Qq2) (!a1)) (fun e=>some e)) else Qq4 (GA a0.f.1) (fun a=>if(bif a then !a1 else false) then Qq4 (Kx a0) (fun b=>some b) else Qq4 (GA a0.f.1) (fun c=>if c then Qq4 (Kx a0) (fun d=>some ((Qv.mk (10:Int) ([]) ([]:AaV) ([]) (0:Int) (0:Int) ([d])))) else(if a1 then AN (Bz (17 - a0.f.1)) ((E9 a0 a1 self) (17 - a0.f.1)) else(E9 a0 a1 self) a0.f.1)))
def J3(self:Qv->Bool->Option (Qv)):Prop:=∀ (w:World) (H:PH) (hH:Le H (hp w)) {a0:Qv} {a1:Bool} {a:Value} {b:Value} {c:Value} (i:AJ .st H a (a0.f.2.1)) (j:AJ .byte H b (a0.f.2.2.2.1)) (k:AJ .Bu H c (a0.f.2.2.2.2.2.2)) {r:Qv} (h:self a0 a1=some r),Ok prog 58 [.agg #[No a0.f.1,a,AaM a0.f.2.2.1,b,No a0.f.2.2.2.2.1,No a0.f.2.2.2.2.2.1,c],.bool a1] w (fun v w'=>Ext w w'/\∃ d e g,v=.agg #[No r.f.1,d,AaM r.f.2.2.1,e,No r.f.2.2.2.2.1,No r.f.2.2.2.2.2.1,g]/\AJ .st (un H (nw w w')) d (r.f.2.1)/\AJ .byte (un H (nw w w')) e (r.f.2.2.2.1)/\AJ .Bu (un H (nw w w')) g (r.f.2.2.2.2.2.2))
def Gb:Nat->Qv->Bool->Option (Qv)
 | 0=>fun _ _=>none
 | n+1=>Cw (Gb n)
def KU:Qv->Bool->Option (Qv):=Gb 1000
theorem Qj(self:Qv->Bool->Option (Qv))(hself:J3 self):J3 (Cw self):=by
 intro w H hH a0 a1 az a2 ap bo bp aq r h;unfold J3 at hself;refine A1 75 [(0,.agg #[No a0.f.1,az,AaM a0.f.2.2.1,a2,No a0.f.2.2.2.2.1,No a0.f.2.2.2.2.2.1,ap]),(1,.bool a1)] func58 Z fun hL=>Aj<|CD (t:=26) Z Z hL fun w1 b1 dh d8 _=>A9 By.e Z dh fun w2 b2 u d9 _=>Ad<|AB<|A4<|Aj<|Ai (Ae Z Aj3 Z CR.e)<|Ai (Ag 1 Z u Z)<|A8 2 Z<|AQ h ?_ ?_<;>intro di h
 ·refine Aj<|Ai (Ae Z Aj3 Z JP.e)<|Ai (Ag 1 Z u Z)<|A2 h fun cz h=>Bi aq ((0:Int).toNat) (GX cz) (AX cz) ?_;rintro p5 _ e5t0 dj;obtain⟨_,_,rfl,rfl,⟨_,_,rfl,⟨e5v1,rfl,e5h1⟩,⟨_,_,rfl,rfl,⟨_,_,rfl,⟨e5v3,rfl,e5h3⟩,⟨_,_,rfl,rfl,⟨_,_,rfl,rfl,⟨e5v6,rfl,e5h6⟩⟩⟩⟩⟩⟩⟩:=Go.E.Rp.HQ e5t0;refine Ai (Cz dj (hH.trans u.arg))<|Ar 2 Z<|Aw h fun x7 dk h=>Bf u (hself _ _ (An u) (e5h1.mono  Ah) (e5h3.mono  Ah) (e5h6.mono  Ah) dk) ?_;rintro _ w8 ⟨ea,eb,ec,rfl,ca,cb,cc⟩ bq dl ed;have ak:=ca.mono (Dt u bq);have al:=cb.mono (Dt u bq);have am:=cc.mono (Dt u bq);refine Af 0 Z dl Z (a:=(Bk Z (Bk ak.one (Bk Z (Bk al.one (Bk Z (Bk Z (Bk am.one Kq)))))))) ?_;intro w9 c0 bd;have ak:=ak.mono (Aa bd);have al:=al.mono (Aa bd);have am:=am.mono (Aa bd);refine Ad<|Ay<|Av<|Aq ?_
  cases h
  refine Dz (.cell Z Aj3 Z By.e (AG (i:=0) c0 Z)) ⟨c0.ext,_,_,_,Z,(ak.mono  EE),(al.mono  EE),(am.mono  EE)⟩
 refine Aj<|Ai (Ae Z Aj3 Z CR.e)<|Ai (Ag 1 Z u Z)<|Aw h fun ey c1 h=>AD u (ME _ _ (An u) c1) fun ez ee p ds=>Ar 1 Z<|U0 2 3 Z Z Z Z Z Z Z<|A8 1 Z<|B8 h ?_ ?_<;>intro c2 h
 ·refine Aj<|Ai (Az 1 Z By.e p Z)<|Aw h fun e0 c3 h=>Bf p (PW (a0:=a0) _ _ (An p) (bo.mono  Ah) (bp.mono  Ah) (aq.mono  Ah) c3) ?_;rintro _ e1 ⟨dt,du,dv,rfl,br,bs,bt⟩ be c4 dw;have ac:=br.mono (Dt p be);have ad:=bs.mono (Dt p be);have ae:=bt.Du hH p be;refine Af 0 Z c4 Z (a:=(Bk Z (Bk ac.one (Bk Z (Bk ad.one (Bk Z (Bk Z (Bk ae.one Kq)))))))) ?_;intro e2 bu a3;have ac:=ac.mono (Aa a3);have ad:=ad.mono (Aa a3);have ae:=ae.mono (Aa a3);refine Ad<|Ay<|Av<|Aq ?_
  cases h
  refine Dz (.cell Z Aj3 Z By.e (AG (i:=0) bu Z)) ⟨bu.ext,_,_,_,Z,(ac.mono  EE),(ad.mono  EE),(ae.mono  EE)⟩
 refine Aj<|Ai (Ae Z Aj3 Z CR.e)<|Ai (Ag 1 Z p Z)<|Aw h fun e3 c5 h=>AD p (ME _ _ (An p) c5) fun e4 ef v dx=>A8 1 Z<|B8 h ?_ ?_<;>intro c6 h
 ·refine Aj<|Ai (Az 1 Z By.e v Z)<|Aw h fun dm c8 h=>Bf v (PW (a0:=a0) _ _ (An v) (bo.mono  Ah) (bp.mono  Ah) (aq.mono  Ah) c8) ?_;rintro _ e5 ⟨dy,dz,d0,rfl,bv,bw,bx⟩ bf c9 d1;have x:=bv.mono (Dt v bf);have y:=bw.mono (Dt v bf);have z:=bx.Du hH v bf;refine B9 [dm] (r:=.Bu) (fun _=>N5 _ _ _ _ _ _ _ _) c9 (.c7 (Go.E.Rp.H8 ⟨_,_,Z,Z,⟨_,_,Z,⟨_,Z,x⟩,⟨_,_,Z,Z,⟨_,_,Z,⟨_,Z,y⟩,⟨_,_,Z,Z,⟨_,_,Z,Z,⟨_,Z,z⟩⟩⟩⟩⟩⟩⟩) .nil) ?_;intro e6 e7 eg da a4 ar;have x:=x.mono (Aa a4);have y:=y.mono (Aa a4);have z:=z.mono (Aa a4);refine Ai (AT (fun _=>OW _ _ ar.one _))<|Af 0 Z da Z (a:=(Bk Z (Bk Z (Bk Z (Bk Z (Bk Z (Bk Z (Bk ar.one Kq)))))))) ?_;intro e8 bz an;have x:=x.mono (Aa an);have y:=y.mono (Aa an);have z:=z.mono (Aa an);have ar:=ar.mono (Aa an);refine Ad<|Ay<|Av<|Aq ?_
  cases h
  refine Dz (.cell Z Aj3 Z By.e (AG (i:=0) bz Z)) ⟨bz.ext,_,_,_,Z,(AJ.nil _ _),(AJ.nil _ _),(ar.mono  EE)⟩
 refine Ax<|A3<|As<|Aj<|Ai (Ae Z Aj3 Z CR.e)<|Ai (Ag 1 Z v Z)<|Ai (AT (fun _=>Agh _ _))<|A9 By.e Z v fun e9 ay db d2 _=>Af 0 Z db Z fun fa bg d3=>Ad<|B2 Int (fun aj=>[(1,.bool a1),(2,(Aad b1)),(4,(Aad b2)),(5,(Aad ay))]) (fun aj wr=>Bb w [.box ay [No aj,Aac,(AaM []),Aac,No 0,No 0,Aac] 26,.box b2 AbM 26,.box b1 [No a0.f.1,az,AaM a0.f.2.2.1,a2,No a0.f.2.2.2.2.1,No a0.f.2.2.2.2.2.1,ap] 26] wr/\(E9 a0 a1 self) aj=some r) ?_ ?_
 ·refine AI 1 Z<|B8 h ?_ ?_<;>intro dc h
  ·refine Au<|Ai (Ae Z Aj3 Z CR.e)<|Ai (Ag 2 Z bg Z)<|A2 h fun dd h=>Ai (A7 dd)<|Ai (Ae Z Aj3 Z CR.e)<|B5 0 Z Z bg Z Z fun fb de d4=>AL<|AA _ ⟨de,h⟩
  refine Ax<|AA _ ⟨bg,h⟩
 rintro aj eh ⟨b0,h⟩;refine B2 ((List Qv)×Value×(List Value)) (fun⟨au,ao,af⟩=>[(4,(Aad b2)),(5,(Aad ay))]) (fun⟨au,ao,af⟩ wr=>FX w [.row ao 26 7 (au).length af,.box ay [No aj,Aac,(AaM []),Aac,No 0,No 0,ao] 26,.box b2 AbM 26,.box b1 [No a0.f.1,az,AaM a0.f.2.2.1,a2,No a0.f.2.2.2.2.1,No a0.f.2.2.2.2.2.1,ap] 26] wr fun Oz=>AH .Bu (gz H w wr Oz) au af/\(Ii aj) au=some r) ?_ ?_
 ·refine Aj<|Ai (Ae Z Aj3 Z JP.e)<|Ai (Ag 2 Z b0 Z)<|Ai (Bm aq)<|A8 1 Z<|A4 ?_;obtain⟨cd,dn,ce⟩:=DI .Bu H 26 b0;obtain⟨a5,h⟩:=Ba h;refine B7 ((List Qv)×Int×Value×(List Value)×Nat) (fun⟨k,c,aa,o,n⟩=>[(1,.bool a1),(4,(Aad b2)),(5,(Aad ay)),(47,ap),(48,No (a0.f.2.2.2.2.2.2.length:Int)),(49,No c)]) (fun⟨k,c,aa,o,n⟩ wr=>FX w [.row aa 26 7 (k).length o,.box ay [No aj,Aac,(AaM []),Aac,No 0,No 0,aa] 26,.box b2 AbM 26,.box b1 [No a0.f.1,az,AaM a0.f.2.2.1,a2,No a0.f.2.2.2.2.1,No a0.f.2.2.2.2.2.1,ap] 26] wr fun Oz=>AH .Bu (gz H w wr Oz) k o/\Ia (Er a0 a1 aj self) n (k,c)=some r) (fun⟨k,c,aa,o,n⟩=>n) (([]:List Qv),0,Aac,[],a5) Z ⟨cd,ce,h⟩ ?_;rintro⟨k,c,aa,o,nn135⟩ d5 ⟨a6,b,h⟩
  obtain⟨a5,ei,rfl,h,a7⟩:=AZ h;refine AI 1 Z<|AB<|AQ h ?_ ?_<;>intro cf h
  ·refine Ax<|As<|AB<|A4<|Aj<|A2 h fun bh h=>Bi aq c.toNat (GX bh) (AX bh) ?_;rintro ej _ e140t0 cg;obtain⟨_,_,rfl,rfl,⟨_,_,rfl,⟨e140v1,rfl,e140h1⟩,⟨_,_,rfl,rfl,⟨_,_,rfl,⟨e140v3,rfl,e140h3⟩,⟨_,_,rfl,rfl,⟨_,_,rfl,rfl,⟨e140v6,rfl,e140h6⟩⟩⟩⟩⟩⟩⟩:=Go.E.Rp.HQ e140t0;refine Ai (Cz cg (hH.trans a6.arg))<|A9 By.e Z a6 ?_;intro ek el ch b3 _;have b:=b.mono (Aa b3);refine Af 0 Z ch Z (a:=(Bk Z (Bk e140h1.one (Bk Z (Bk e140h3.one (Bk Z (Bk Z (Bk e140h6.one Kq)))))))) ?_;intro em ab b4;have b:=b.mono (Aa b4);refine Ad<|Aj<|Ai (Az 0 Z By.e ab Z)<|Ar 1 Z<|Aw h fun av ci h=>Bf ab (hself _ _ (An ab) (e140h1.mono  Ah) (e140h3.mono  Ah) (e140h6.mono  Ah) ci) ?_;rintro _ en ⟨dp,dq,dr,rfl,bl,bm,bn⟩ a8 cj b5;have g:=bl.mono (Dt ab a8);have j:=bm.mono (Dt ab a8);have d:=bn.mono (Dt ab a8);have b:=b.mono (Aa b5)
   refine A9 By.e Z cj ?_;intro eo ep ck ag _;have b:=b.mono (Aa ag);have g:=g.mono (Aa ag);have j:=j.mono (Aa ag);have d:=d.mono (Aa ag);refine Af 0 Z ck Z (a:=(Bk Z (Bk g.one (Bk Z (Bk j.one (Bk Z (Bk Z (Bk d.one Kq)))))))) ?_;intro eq e ah;have b:=b.mono (Aa ah);have g:=g.mono (Aa ah);have j:=j.mono (Aa ah);have d:=d.mono (Aa ah);refine Ad ?_;have a:=e.rG H;refine Aj<|Ai (Ae Z Aj3 Z CR.e)<|Ai (Ag 0 Z e Z)<|Ai (Ae Z Aj3 Z CR.e)<|Ai (Ag 3 Z e Z)<|A8 1 Z<|AQ h ?_ ?_<;>intro cl h
   ·refine Au<|Ai (Ae Z Aj3 Z JP.e)<|Ai (Ag 3 Z e Z)<|Ai (Ae Z Aj3 Z JP.e)<|Ai (Ag 0 Z e Z)<|A2 h fun cm h=>Bt (r:=.Bu) 2 k av.f.2.2.2.2.2.2 Z AjP e Z (b.mono a) (d.mono a) cm ?_;intro df er cn bi b6 q;have a:=a.trans (Aa b6);refine Ai (Ae Z Aj3 Z JP.e)<|B5 3 Z (row_one (bi.at (i:=2) Z)) bi Z Z ?_;intro es co bb;have q:=q.mono (Aa bb);have a:=a.trans (Aa bb);refine AL<|A3<|As<|Au<|A2 h fun cp h=>Ai (A7 cp)<|Ar 1 Z<|AL ?_;have cq:=co.AS (i:=0) Z;have q:=q.mono (Aa (Ak (i:=0) Z));have a:=a.trans (Aa (Ak (i:=0) Z));have cr:=cq.AS (i:=0) Z;have q:=q.mono (Aa (Ak (i:=0) Z));have a:=a.trans (Aa (Ak (i:=0) Z));have h:=Cf.again h a7
    refine AM (_,_,_,_,_) Z ⟨cr,q,h⟩
   refine Au<|Ai (Ae Z Aj3 Z JP.e)<|Ai (Ag 3 Z e Z)<|Ai (Az 0 Z By.e e Z)<|B9 [av] (r:=.Bu) (fun _=>N5 _ _ _ _ _ _ _ _) e (.c7 (Go.E.Rp.H8 ⟨_,_,Z,Z,⟨_,_,Z,⟨_,Z,(g.mono a)⟩,⟨_,_,Z,Z,⟨_,_,Z,⟨_,Z,(j.mono a)⟩,⟨_,_,Z,Z,⟨_,_,Z,Z,⟨_,Z,(d.mono a)⟩⟩⟩⟩⟩⟩⟩) .nil) ?_;intro et eu d6 cs b7 ai;have a:=a.trans (Aa b7);refine A2 h fun ct h=>Bt (r:=.Bu) 2 k [av] Z AjP cs Z (b.mono a) ai ct ?_;intro dg ev cu bj bc s;have ai:=ai.mono (Aa bc);have a:=a.trans (Aa bc);refine Ai (Ae Z Aj3 Z JP.e)<|B5 3 Z (row_one (bj.at (i:=2) Z)) bj Z Z ?_;intro ew cv aw;have ai:=ai.mono (Aa aw);have s:=s.mono (Aa aw);have a:=a.trans (Aa aw);refine AL<|A3<|As<|Au<|A2 h fun cw h=>Ai (A7 cw)<|Ar 1 Z<|AL ?_;have cx:=cv.AS (i:=0) Z
   have s:=s.mono (Aa (Ak (i:=0) Z));have a:=a.trans (Aa (Ak (i:=0) Z));have cy:=cx.AS (i:=0) Z;have s:=s.mono (Aa (Ak (i:=0) Z));have a:=a.trans (Aa (Ak (i:=0) Z));have h:=Cf.again h a7;refine AM (_,_,_,_,_) Z ⟨cy,s,h⟩
  refine B4<|AF<|A5 ?_;have h:=Cf.out h a7;refine Bg<|AA (_,_,_) ⟨a6,b,h⟩
 rintro⟨au,ao,af⟩ d7 ⟨a9,ax,h⟩;refine Aj<|Ai (Az 1 Z By.e a9 Z)<|Af 2 Z a9 Z (a:=(Bk Z (Bk Z (Bk Z (Bk Z (Bk Z (Bk Z (Bk (row_one (a9.at (i:=0) Z)) Kq)))))))) ?_;intro ex ba b8;have ax:=ax.mono (Aa b8);refine Ad<|Ay ?_
 cases h
 refine Dz (.cell Z Aj3 Z By.e (AG (i:=2) ba Z)) ⟨ba.ext,_,_,_,Z,(AJ.nil _ _),(AJ.nil _ _),((ba.Iq hH (i:=0) Z ax).vec hH)⟩
theorem Sa(n:Nat):J3 (Gb n):=by
 induction n with
 | zero=>unfold J3;intros;rename_i h;cases h
 | succ n ih=>exact Qj (Gb n) ih
section
variable(w:World)(H:PH)(hH:Le H (hp w)) include hH
theorem T0{a0:Qv}{a1:Bool}{a b c:Value}(d:AJ .st H a (a0.f.2.1))(e:AJ .byte H b (a0.f.2.2.2.1))(g:AJ .Bu H c (a0.f.2.2.2.2.2.2)){r:Qv}(h:KU a0 a1=some r):Ok prog 58 [.agg #[No a0.f.1,a,AaM a0.f.2.2.1,b,No a0.f.2.2.2.2.1,No a0.f.2.2.2.2.2.1,c],.bool a1] w (fun v w'=>Ext w w'/\∃ i j k,v=.agg #[No r.f.1,i,AaM r.f.2.2.1,j,No r.f.2.2.2.2.1,No r.f.2.2.2.2.2.1,k]/\AJ .st (un H (nw w w')) i (r.f.2.1)/\AJ .byte (un H (nw w w')) j (r.f.2.2.2.1)/\AJ .Bu (un H (nw w w')) k (r.f.2.2.2.2.2.2)):=Sa 1000 w H hH d e g h
end
def G1(_self1:Qv->Option AaV)(self2:(List Qv)->AaV->(List Int)->Option AaV)(a0:Qv):Option AaV:=
 if a0.f.1=1 then AN (0<=(0:Int)/\(0:Int)<(a0.f.2.1.length:Int)) (some (a0.f.2.1.getD ((0:Int).toNat) Qq2)) else(if a0.f.1=2 then Qq4 (S5 a0.f.2.1 ([32]:AaV)) (fun g=>AN (([34]:AaV).length+g.length<=9223372036854775807) (AN ((([34]:AaV)++g).length+([34]:AaV).length<=9223372036854775807) (some (((([34]:AaV)++g)++([34]:AaV)))))) else(if a0.f.1=3 then AN (0<=(0:Int)/\(0:Int)<(a0.f.2.1.length:Int)) (AN ((a0.f.2.1.getD ((0:Int).toNat) Qq2).length+([126]:AaV).length<=9223372036854775807) (Qq4 (S4 a0.f.2.2.2.2.1) (fun a=>AN ((a0.f.2.1.getD ((0:Int).toNat) Qq2++([126]:AaV)).length+a.length<=9223372036854775807) (AN (((a0.f.2.1.getD ((0:Int).toNat) Qq2++([126]:AaV))++a).length+([126]:AaV).length<=9223372036854775807) (AN (0<=(1:Int)/\(1:Int)<(a0.f.2.1.length:Int)) (AN ((((a0.f.2.1.getD ((0:Int).toNat) Qq2++([126]:AaV))++a)++([126]:AaV)).length+(a0.f.2.1.getD ((1:Int).toNat) Qq2).length<=9223372036854775807) (some (((((a0.f.2.1.getD ((0:Int).toNat) Qq2++([126]:AaV))++a)++([126]:AaV))++a0.f.2.1.getD ((1:Int).toNat) Qq2))))))))) else(if a0.f.1=4 then Qq4 (IC a0.f.2.2.2.1) (fun h=>some h) else(if a0.f.1=5 then AN (([47]:AaV).length+a0.f.2.2.1.length<=9223372036854775807) (some ((([47]:AaV)++a0.f.2.2.1))) else(if a0.f.1=6 then AN (([47]:AaV).length+a0.f.2.2.1.length<=9223372036854775807) (AN ((([47]:AaV)++a0.f.2.2.1).length+([61]:AaV).length<=9223372036854775807) (Qq4 (S4 a0.f.2.2.2.2.1) (fun b=>AN (((([47]:AaV)++a0.f.2.2.1)++([61]:AaV)).length+b.length<=9223372036854775807) (AN ((((([47]:AaV)++a0.f.2.2.1)++([61]:AaV))++b).length+([46,46]:AaV).length<=9223372036854775807) (Qq4 (S4 a0.f.2.2.2.2.2.1) (fun c=>AN (((((([47]:AaV)++a0.f.2.2.1)++([61]:AaV))++b)++([46,46]:AaV)).length+c.length<=9223372036854775807) (some ((((((([47]:AaV)++a0.f.2.2.1)++([61]:AaV))++b)++([46,46]:AaV))++c))))))))) else(if a0.f.1=7 then AN (([47]:AaV).length+a0.f.2.2.1.length<=9223372036854775807) (AN ((([47]:AaV)++a0.f.2.2.1).length+([61]:AaV).length<=9223372036854775807) (Qq4 (IC a0.f.2.2.2.1) (fun d=>AN (((([47]:AaV)++a0.f.2.2.1)++([61]:AaV)).length+d.length<=9223372036854775807) (some ((((([47]:AaV)++a0.f.2.2.1)++([61]:AaV))++d)))))) else(if a0.f.1=8 then Qq4 (self2 a0.f.2.2.2.2.2.2 ([38]:AaV) ([9])) (fun i=>some i) else(if a0.f.1=9 then Qq4 (self2 a0.f.2.2.2.2.2.2 ([124]:AaV) ([])) (fun j=>some j) else Qq4 (self2 a0.f.2.2.2.2.2.2 ([]:AaV) ([8,9])) (fun e=>AN (([33]:AaV).length+e.length<=9223372036854775807) (some ((([33]:AaV)++e))))))))))))
theorem R1{self1:Qv->Option AaV}{self2:(List Qv)->AaV->(List Int)->Option AaV}(_hself1:∀ (w:World) (H:PH) (hH:Le H (hp w)) (hU:Gq H) {a0:Qv} {b:Value} {d:Value} {e:Value} (g:AJ .st H b (a0.f.2.1)) (m:AJ .byte H d (a0.f.2.2.2.1)) (j:AJ .Bu H e (a0.f.2.2.2.2.2.2)) {r:AaV} (h:self1 a0=some r),Ok prog 33 [.agg #[No a0.f.1,b,AaM a0.f.2.2.1,d,No a0.f.2.2.2.2.1,No a0.f.2.2.2.2.2.1,e]] w (fun v w'=>Ext w w'/\v=(AaM r)))(hself2:∀ (w:World) (H:PH) (hH:Le H (hp w)) (hU:Gq H) {a0:List Qv} {a1:AaV} {a2:List Int} {b:Value} {o:Value} (g:AJ .Bu H b a0) (_h2_0:AJ (.int .i64) H o a2) {r:AaV} (h:self2 a0 a1 a2=some r),Ok prog 66 [b,AaM a1,o] w (fun v w'=>Ext w w'/\v=(AaM r)))(w:World)(H:PH)(hH:Le H (hp w))(hU:Gq H){a0:Qv}{b d e:Value}(g:AJ .st H b (a0.f.2.1))(m:AJ .byte H d (a0.f.2.2.2.1))(j:AJ .Bu H e (a0.f.2.2.2.2.2.2)){r:AaV}(h:G1 self1 self2 a0=some r):
  Ok prog 33 [.agg #[No a0.f.1,b,AaM a0.f.2.2.1,d,No a0.f.2.2.2.2.1,No a0.f.2.2.2.2.2.1,e]] w (fun v w'=>Ext w w'/\v=(AaM r)):=by
 refine A1 86 [(0,.agg #[No a0.f.1,b,AaM a0.f.2.2.1,d,No a0.f.2.2.2.2.1,No a0.f.2.2.2.2.2.1,e])] func33 Z fun hL=>Aj<|CD (t:=26) Z Z hL fun w1 b1 a b8 _=>A8 1 Z<|AB<|Aj<|Ai (Ae Z Aj3 Z CR.e)<|Ai (Ag 0 Z a Z)<|Ad<|A4<|AI 2 Z<|AQ h ?_ ?_<;>intro bv h
 ·refine Aj<|Ai (Ae Z Aj3 Z Nq.e)<|Ai (Ag 0 Z a Z)<|A2 h fun y h=>Bi g ((0:Int).toNat) (GX y) (AX y) ?_;rintro p4 _ rfl bw;refine Ai (Bl bw (hH.trans a.arg))<|A8 1 Z<|Ay<|Av<|Aq ?_
  cases h
  refine Al Z ⟨a.ext,Z⟩
 refine AI 2 Z<|AQ h ?_ ?_<;>intro bx h
 ·refine Aj<|Ai (Ae Z Aj3 Z Nq.e)<|Ai (Ag 0 Z a Z)<|Aw h fun x9 bz h=>AD a (XN _ _ (An a) (g.mono  Ah) bz) fun cg b9 z b0=>A2 h fun aa h=>Ai (LJ aa)<|A2 h fun ab h=>Ai (LJ ab)<|A8 1 Z<|Ay<|Av<|Aq ?_
  cases h
  refine Al Z ⟨z.ext,Z⟩
 refine AI 2 Z<|AQ h ?_ ?_<;>intro ac h
 ·refine Ex (Qqz 0 16 (.tail 16)) mixed Qqb (fun ch ad=>?_);have c:=a.call ad;refine CB Z (Ae Z Aj3 Z Nq.e) Z<|CB Z (Ag 0 Z c Z) Z<|A2 h fun p h=>HZ Z Z Z Adb g ((0:Int).toNat) (GX p) (AX p) Z ?_;rintro ci _ rfl ae;refine CB Z (Bl ae (hH.trans c.arg)) Z<|A2 h fun af h=>CB Z (LJ af) Z<|CB Z (Ae Z Aj3 Z CR.e) Z<|CB Z (Ag 0 Z c Z) Z<|Aw h fun cj ag h=>JN Z Z Z (fun ck ah=>XM _ _ (Le.refl _) (hU.mono (hH.trans (c.call ah).arg)) ag)<|A2 h fun ai h=>CB Z (LJ ai) Z<|A2 h fun aj h=>CB Z (LJ aj) Z<|CB Z (Ae Z Aj3 Z Nq.e) Z<|CB Z (Ag 0 Z c Z) Z<|A2 h fun s h=>HZ Z Z Z Adb g ((1:Int).toNat) (GX s) (AX s) Z ?_;rintro cl _ rfl ak;refine CB Z (Bl ak (hH.trans c.arg)) Z<|A2 h fun al h=>?_
  refine CB Z (LJ al) Z<|D4 1 Z<|BT (fun cm am=>?_);have an:=c.call am;refine Ad<|Ay<|Av<|Aq ?_
  cases h
  refine Al Z ⟨an.ext,Z⟩
 refine AI 2 Z<|AQ h ?_ ?_<;>intro ao h
 ·refine Aj<|Ai (Ae Z Aj3 Z IF.e)<|Ai (Ag 0 Z a Z)<|Aw h fun cn ap h=>AD a (Pd _ _ (An a) (m.mono  Ah) ap) fun co ca aq b2=>A8 1 Z<|Ay<|Av<|Aq ?_
  cases h
  refine Al Z ⟨aq.ext,Z⟩
 refine AI 2 Z<|AQ h ?_ ?_<;>intro ar h
 ·refine Aj<|Ai (Ae Z Aj3 Z HO.e)<|Ai (Ag 0 Z a Z)<|A2 h fun au h=>Ai (LJ au)<|A8 1 Z<|Ay<|Av<|Aq ?_
  cases h
  refine Al Z ⟨a.ext,Z⟩
 refine AI 2 Z<|AQ h ?_ ?_<;>intro av h
 ·refine Ex (Qqz 0 14 (.tail 14)) mixed Qqb (fun cp aw=>?_);have i:=a.call aw;refine CB Z (Ae Z Aj3 Z HO.e) Z<|CB Z (Ag 0 Z i Z) Z<|A2 h fun ax h=>CB Z (LJ ax) Z<|A2 h fun ay h=>CB Z (LJ ay) Z<|CB Z (Ae Z Aj3 Z CR.e) Z<|CB Z (Ag 0 Z i Z) Z<|Aw h fun cq az h=>JN Z Z Z (fun cr a3=>XM _ _ (Le.refl _) (hU.mono (hH.trans (i.call a3).arg)) az)<|A2 h fun a4 h=>CB Z (LJ a4) Z<|A2 h fun a5 h=>CB Z (LJ a5) Z<|CB Z (Ae Z Aj3 Z CR.e) Z<|CB Z (Ag 0 Z i Z) Z<|Aw h fun cs a6 h=>JN Z Z Z (fun ct a7=>XM _ _ (Le.refl _) (hU.mono (hH.trans (i.call a7).arg)) a6)<|A2 h fun a8 h=>CB Z (LJ a8) Z<|D4 1 Z<|BT (fun cu a9=>?_);have ba:=i.call a9;refine Ad<|Ay<|Av<|Aq ?_
  cases h
  refine Al Z ⟨ba.ext,Z⟩
 refine AI 2 Z<|AQ h ?_ ?_<;>intro bb h
 ·refine Ex (Qqz 0 9 (.tail 9)) mixed Qqb (fun cv bc=>?_);have k:=a.call bc;refine CB Z (Ae Z Aj3 Z HO.e) Z<|CB Z (Ag 0 Z k Z) Z<|A2 h fun bd h=>CB Z (LJ bd) Z<|A2 h fun be h=>CB Z (LJ be) Z<|CB Z (Ae Z Aj3 Z IF.e) Z<|CB Z (Ag 0 Z k Z) Z<|Aw h fun cw bf h=>JN Z Z Z (fun cx bg=>Pd _ _ (Le.refl _) ((m.mono (hH.trans k.arg)).mono bg.le) bf)<|A2 h fun bh h=>CB Z (LJ bh) Z<|D4 1 Z<|BT (fun cy bi=>?_);have bj:=k.call bi;refine Ad<|Ay<|Av<|Aq ?_
  cases h
  refine Al Z ⟨bj.ext,Z⟩
 refine AI 2 Z<|AQ h ?_ ?_<;>intro bk h
 ·refine Aj<|Ai (Ae Z Aj3 Z JP.e)<|Ai (Ag 0 Z a Z)<|B9 [9] (r:=(.int .i64)) (fun _=>Jn _ _) a (.c1 Z .nil) fun cz c0 cb u b3 bl=>Aw h fun c2 bm h=>AD u (hself2 _ _ (An u) (hU.mono  Ah) (j.mono  Ah) bl bm) fun c3 cc bn b4=>A8 1 Z<|Ay<|Av<|Aq ?_
  cases h
  refine Al Z ⟨bn.ext,Z⟩
 refine AI 2 Z<|AQ h ?_ ?_<;>intro bo h
 ·refine Aj<|Ai (Ae Z Aj3 Z JP.e)<|Ai (Ag 0 Z a Z)<|Aw h fun c4 bp h=>AD a (hself2 _ _ (An a) (hU.mono  Ah) (j.mono  Ah) (AJ.nil _ _) bp) fun c5 cd bq b5=>A8 1 Z<|Ay<|Av<|Aq ?_
  cases h
  refine Al Z ⟨bq.ext,Z⟩
 refine Ax<|A3<|As<|Aj<|Ai (Ae Z Aj3 Z JP.e)<|Ai (Ag 0 Z a Z)<|B9 [8,9] (r:=(.int .i64)) (fun _=>Ab1 _ _ _) (hlen:=(BI 2)) a (.c1 Z (.c1 Z .nil)) fun c6 c7 ce x b6 br=>Aw h fun c8 bs h=>AD x (hself2 _ _ (An x) (hU.mono  Ah) (j.mono  Ah) br bs) fun c9 cf bt b7=>A2 h fun bu h=>Ai (LJ bu)<|A8 1 Z<|Ay ?_
 cases h
 refine Al Z ⟨bt.ext,Z⟩
def Fg(c:List AaV)(a:Int)(b:AaV):Option (((List AaV)×Int) ⊕ (AaV)):=
 AN (Go.E.HK 16 (c.length+([b]).length)) (AN (Bz (a+1)) (some (Sum.inl ((c++[b]),(a+1)))))
def GU(a1:AaV)(b:List AaV):Option AaV:=
 Qq4 (S5 b a1) (fun a=>some a)
def Da(a0:List Qv)(a1:AaV)(a2:List Int)(self1:Qv->Option AaV):(List AaV)×Int->Option (((List AaV)×Int) ⊕ (AaV)):=fun⟨c,a⟩=>
 if a<(a0.length:Int) then AN (0<=a/\a<(a0.length:Int)) (Qq4 (self1 (a0.getD a.toNat Qq2)) (fun b=>Qq4 (BD a2 ((a0.getD a.toNat Qq2).f.1)) (fun d=>if d then AN (([40]:AaV).length+b.length<=9223372036854775807) (AN ((([40]:AaV)++b).length+([41]:AaV).length<=9223372036854775807) ((Fg c a) ((([40]:AaV)++b)++([41]:AaV)))) else(Fg c a) b))) else Qq7 Sum.inr ((GU a1) c)
def I2(a0:List Qv)(a1:AaV)(a2:List Int)(self1:Qv->Option AaV)(s:(List AaV)×Int):Option AaV:=Go.L.run (Da a0 a1 a2 self1) s
def F8(self1:Qv->Option AaV)(_self2:(List Qv)->AaV->(List Int)->Option AaV)(a0:List Qv)(a1:AaV)(a2:List Int):Option AaV:=
 (I2 a0 a1 a2 self1) (([]:List AaV),0)
theorem QK{self1:Qv->Option AaV}{self2:(List Qv)->AaV->(List Int)->Option AaV}(hself1:∀ (w:World) (H:PH) (hH:Le H (hp w)) (hU:Gq H) {a0:Qv} {c:Value} {ae:Value} {af:Value} (p:AJ .st H c (a0.f.2.1)) (_h0_1:AJ .byte H ae (a0.f.2.2.2.1)) (_h0_2:AJ .Bu H af (a0.f.2.2.2.2.2.2)) {r:AaV} (h:self1 a0=some r),Ok prog 33 [.agg #[No a0.f.1,c,AaM a0.f.2.2.1,ae,No a0.f.2.2.2.2.1,No a0.f.2.2.2.2.2.1,af]] w (fun v w'=>Ext w w'/\v=(AaM r)))(_hself2:∀ (w:World) (H:PH) (hH:Le H (hp w)) (hU:Gq H) {a0:List Qv} {a1:AaV} {a2:List Int} {c:Value} {j:Value} (p:AJ .Bu H c a0) (ag:AJ (.int .i64) H j a2) {r:AaV} (h:self2 a0 a1 a2=some r),Ok prog 66 [c,AaM a1,j] w (fun v w'=>Ext w w'/\v=(AaM r)))(w:World)(H:PH)(hH:Le H (hp w))(hU:Gq H){a0:List Qv}{a1:AaV}{a2:List Int}{c j:Value}(p:AJ .Bu H c a0)(ag:AJ (.int .i64) H j a2){r:AaV}(h:F8 self1 self2 a0 a1 a2=some r):
  Ok prog 66 [c,AaM a1,j] w (fun v w'=>Ext w w'/\v=(AaM r)):=by
 refine A1 34 [(0,c),(1,(AaM a1)),(2,j)] func66 Z fun hL=>AI 1 Z<|Bx 1 Z ?_;obtain⟨bc,bl,bd⟩:=DI .st H 9 hL;refine Ad<|B2 ((List AaV)×Value×(List Value)) (fun⟨y,q,o⟩=>[(1,(AaM a1)),(7,q)]) (fun⟨y,q,o⟩ wr=>FX w [.row q 9 1 (y).length o] wr fun Oz=>AH .st (gz H w wr Oz) y o/\(GU a1) y=some r) ?_ ?_
 ·refine Bx 1 Z<|Ai (Bm p)<|A8 1 Z<|A4 ?_;obtain⟨ah,h⟩:=Ba h;refine B7 ((List AaV)×Int×Value×(List Value)×Nat) (fun⟨g,a,k,e,n⟩=>[(1,(AaM a1)),(2,j),(7,k),(11,c),(12,No (a0.length:Int)),(13,No a)]) (fun⟨g,a,k,e,n⟩ wr=>FX w [.row k 9 1 (g).length e] wr fun Oz=>AH .st (gz H w wr Oz) g e/\Ia (Da a0 a1 a2 self1) n (g,a)=some r) (fun⟨g,a,k,e,n⟩=>n) (([]:List AaV),0,Aac,[],ah) Z ⟨bc,bd,h⟩ ?_;rintro⟨g,a,k,e,nn79⟩ bm ⟨aa,b,h⟩;obtain⟨ah,be,rfl,h,ai⟩:=AZ h;refine AI 1 Z<|AB<|AQ h ?_ ?_<;>intro a6 h
  ·refine Ax<|As<|AB<|A4<|Aj<|A2 h fun aj h=>Bi p a.toNat (GX aj) (AX aj) ?_;rintro bx _ e83t0 a7;obtain⟨_,_,rfl,rfl,⟨_,_,rfl,⟨e83v1,rfl,e83h1⟩,⟨_,_,rfl,rfl,⟨_,_,rfl,⟨e83v3,rfl,e83h3⟩,⟨_,_,rfl,rfl,⟨_,_,rfl,rfl,⟨e83v6,rfl,e83h6⟩⟩⟩⟩⟩⟩⟩:=Go.E.Rp.HQ e83t0;refine Ai (Cz a7 (hH.trans aa.arg))<|A9 By.e Z aa fun bz bf a8 s _=>Af 0 Z a8 Z (a:=(Bk Z (Bk e83h1.one (Bk Z (Bk e83h3.one (Bk Z (Bk Z (Bk e83h6.one Kq)))))))) fun b0 ab t=>Ad<|Aj<|Ai (Az 0 Z By.e ab Z)<|Aw h fun a5 a9 h=>AD ab (hself1 (a0:=(a0.getD a.toNat Qq2)) _ _ (An ab) (hU.mono  Ah) (e83h1.mono  Ah) (e83h3.mono  Ah) (e83h6.mono  Ah) a9) fun b1 bn ac u=>A8 1 Z ?_
   refine B2 AaV (fun d=>[(1,(AaM a1)),(2,j),(7,k),(10,(AaM d)),(11,c),(12,No (a0.length:Int)),(13,No a)]) (fun d wr=>FX w [.box bf [No ((a0.getD a.toNat Qq2).f.1),e83v1,.string ⟨((a0.getD a.toNat Qq2).f.2.2.1).toArray⟩,e83v3,No ((a0.getD a.toNat Qq2).f.2.2.2.2.1),No ((a0.getD a.toNat Qq2).f.2.2.2.2.2.1),e83v6] 26,.row k 9 1 (g).length e] wr fun Oz=>AH .st (gz H w wr Oz) g e/\(Fg g a) d=some be) ?_ ?_
   ·refine Bx 1 Z<|Ai (Ae Z Aj3 Z CR.e)<|Ai (Ag 0 Z ac Z)<|Aw h fun bo am h=>AD ac (HR _ _ (An ac) (ag.mono  Ah) am) fun bp bi ad z=>Ad<|B8 h ?_ ?_<;>intro an h
    ·refine Au<|Ar 1 Z<|A2 h fun ao h=>Ai (LJ ao)<|A2 h fun ap h=>Ai (LJ ap)<|Ar 1 Z<|AL ?_;have b:=b.mono (Aa (s.trans (t.trans (u.trans z))));refine AA _ ⟨ad,b,h⟩
    refine Ax ?_;have b:=b.mono (Aa (s.trans (t.trans (u.trans z))));refine AA _ ⟨ad,b,h⟩
   have b:=b.mono (Aa (s.trans (t.trans u)));rintro d bq ⟨ba,b,h⟩;refine Au<|Ar 2 Z<|B9 [d] (r:=.st) (fun _=>S0 _ Z _) ba (.c1 Z .nil) fun br bs bj aq ak ar=>A2 h fun au h=>?_;have b:=b.mono (Aa ak);refine Bt (r:=.st) 1 g [d] Z Adb aq Z b ar au fun bb bt av aw bg x=>Ar 1 Z<|AL<|A3<|As<|Au<|A2 h fun ax h=>Ai (A7 ax)<|Ar 1 Z<|AL ?_;have ay:=aw.AS (i:=0) Z;have h:=Cf.again h ai;have x:=x.mono (Aa (Ak (i:=0) Z));refine AM (_,_,_,_,_) Z ⟨ay,x,h⟩
  refine B4<|AF<|A5 ?_;have h:=Cf.out h ai;refine Bg<|AA (_,_,_) ⟨aa,b,h⟩
 rintro⟨y,q,o⟩ bu ⟨al,az,h⟩;refine Bx 2 Z<|Aw h fun bv a3 h=>AD al (XN _ _ (Le.refl _) (al.RU hH (i:=0) Z az) a3) fun bw bk a4 bh=>A8 1 Z<|Ay ?_
 cases h
 refine Al Z ⟨a4.ext,Z⟩
def BL:Nat->(Qv->Option AaV)×((List Qv)->AaV->(List Int)->Option AaV)
 | 0=>(fun _=>none,fun _ _ _=>none)
 | n+1=>(G1 ((BL n).1) ((BL n).2),F8 ((BL n).1) ((BL n).2))
def Ov:Qv->Option AaV:=(BL 1000).1
theorem Sb(n:Nat):(∀ (w:World) (H:PH) (hH:Le H (hp w)) (hU:Gq H) {a0:Qv} {a:Value} {b:Value} {c:Value} (e:AJ .st H a (a0.f.2.1)) (g:AJ .byte H b (a0.f.2.2.2.1)) (i:AJ .Bu H c (a0.f.2.2.2.2.2.2)) {r:AaV} (h:((BL n).1) a0=some r),Ok prog 33 [.agg #[No a0.f.1,a,AaM a0.f.2.2.1,b,No a0.f.2.2.2.2.1,No a0.f.2.2.2.2.2.1,c]] w (fun v w'=>Ext w w'/\v=(AaM r)))/\(∀ (w:World) (H:PH) (hH:Le H (hp w)) (hU:Gq H) {a0:List Qv} {a1:AaV} {a2:List Int} {a:Value} {d:Value} (e:AJ .Bu H a a0) (j:AJ (.int .i64) H d a2) {r:AaV} (h:((BL n).2) a0 a1 a2=some r),Ok prog 66 [a,AaM a1,d] w (fun v w'=>Ext w w'/\v=(AaM r))):=by
 induction n with
 | zero=>exact⟨(by intros;rename_i h;cases h),(by intros;rename_i h;cases h)⟩
 | succ n ih=>exact⟨R1 ih.1 ih.2,QK ih.1 ih.2⟩
section
variable(w:World)(H:PH)(hH:Le H (hp w)) include hH
theorem V9(hU:Gq H){a0:Qv}{a b c:Value}(d:AJ .st H a (a0.f.2.1))(e:AJ .byte H b (a0.f.2.2.2.1))(g:AJ .Bu H c (a0.f.2.2.2.2.2.2)){r:AaV}(h:Ov a0=some r):Ok prog 33 [.agg #[No a0.f.1,a,AaM a0.f.2.2.1,b,No a0.f.2.2.2.2.1,No a0.f.2.2.2.2.2.1,c]] w (fun v w'=>Ext w w'/\v=(AaM r)):=(Sb 1000).1 w H hH hU d e g h
def Hz(a0:Qv):Option (AaV×(Int×Int)):=
 Qq4 (Mb a0 (0:Int) (1:Int)) (fun a=>if a.2.1=0/\a.2.2=0 then Qq4 (Ov a0) (fun b=>if 200<(b.length:Int) then Qq4 (Cn (14:Int) (-1:Int)) (fun c=>some (([]:AaV),(c.1,c.2))) else some (b,(0,0))) else some (([]:AaV),(a.2.1,a.2.2)))
theorem Lh(hU:Gq H)(a0:Qv){b c d:Value}(g:AJ .st H b (a0.f.2.1))(j:AJ .byte H c (a0.f.2.2.2.1))(k:AJ .Bu H d (a0.f.2.2.2.2.2.2)){r:AaV×(Int×Int)}(h:Hz a0=some r):
  Qqv 11 [.agg #[No a0.f.1,b,AaM a0.f.2.2.1,c,No a0.f.2.2.2.2.1,No a0.f.2.2.2.2.2.1,d]] w (fun v w'=>v=.tuple #[AaM r.1,.agg #[No r.2.1,No r.2.2]]):=by
 refine A1 24 [(0,.agg #[No a0.f.1,b,AaM a0.f.2.2.1,c,No a0.f.2.2.2.2.1,No a0.f.2.2.2.2.2.1,d])] func11 Z fun hL=>Aj<|CD (t:=26) Z Z hL fun w1 b1 ac an _=>Ar 1 Z<|A9 AE.e Z ac fun w2 b2 l ao _=>Ad<|AB<|Aj<|Ai (Az 1 Z By.e l Z)<|Aw h fun x3 ad h=>AD l (Ut (a0:=a0) _ _ (An l) (hU.mono  Ah) (g.mono  Ah) (j.mono  Ah) (k.mono  Ah) ad) fun w4 aw ae ap=>Ar 3 Z<|A9 AE.e Z ae fun w5 b5 af aq _=>Ar 1 Z<|Af 0 Z af Z fun w6 a ar=>Ad<|Aj<|Ai (Az 0 Z AE.e a Z)<|Ai (AT (fun _=>BM _))<|Ai (JO Jh (Nc _ _ _ _))<|Ad<|CX h ?_ ?_<;>intro ag h
 ·refine Ex (.q 0 (.q 1 (.tail 2))) mixed Qqb (fun w9 ah=>?_);have m:=a.call ah;refine CB Z (Az 0 Z AE.e m Z) Z<|D4 1 Z<|BT (fun ax u=>?_);have x:=m.call u;refine Af 1 Z x Z fun ay o ai=>Ad<|Ay<|Aq ?_
  cases h
  refine Bo (.tmp Z) (.cell Z Ajx Z AE.e (AG (i:=1) o Z)) ⟨o.ext,Z⟩
 refine Ax<|As<|Aj<|Ai (Az 2 Z By.e a Z)<|Aw h fun az y h=>AD a (V9 (a0:=a0) _ _ (An a) (hU.mono  Ah) (g.mono  Ah) (j.mono  Ah) (k.mono  Ah) y) fun a1 au e aj=>A8 1 Z<|AB<|Bx 1 Z<|Ai (IP Z)<|A8 1 Z<|AQ h ?_ ?_<;>intro z h
 ·refine Aj<|Aw h fun a2 aa h=>AD e (CE _ _ (An e) aa) fun a3 av ab ak=>Ar 1 Z<|Af 1 Z ab Z fun a4 p al=>Ad<|Ay<|Aq ?_
  cases h
  refine Bo (.tmp Z) (.cell Z Ajx Z AE.e (AG (i:=1) p Z)) ⟨p.ext,Z⟩
 refine Ax<|As<|Bx 1 Z<|Ai (AT (fun _=>BM _))<|Ar 1 Z<|Af 1 Z e Z fun a5 s am=>Ad<|Ay ?_
 cases h
 refine Bo (.tmp Z) (.cell Z Ajx Z AE.e (AG (i:=1) s Z)) ⟨s.ext,Z⟩
def Gc(a0:Qv):Option ((Int×Int)):=
 Qq4 (Hz a0) (fun a=>some ((a.2.1,a.2.2)))
theorem Ly(hU:Gq H){a0:Qv}{a b c:Value}(j:AJ .st H a (a0.f.2.1))(k:AJ .byte H b (a0.f.2.2.2.1))(l:AJ .Bu H c (a0.f.2.2.2.2.2.2)){r:(Int×Int)}(h:Gc a0=some r):
  Qqv 14 [.agg #[No a0.f.1,a,AaM a0.f.2.2.1,b,No a0.f.2.2.2.2.1,No a0.f.2.2.2.2.2.1,c]] w (fun v w'=>v=.agg #[No r.1,No r.2]):=by
 refine A1 11 [(0,.agg #[No a0.f.1,a,AaM a0.f.2.2.1,b,No a0.f.2.2.2.2.1,No a0.f.2.2.2.2.2.1,c])] func14 Z fun hL=>Aj<|CD (t:=26) Z Z hL fun w1 b1 m s _=>A9 AE.e Z m fun w2 b2 d u _=>Ad<|Aj<|Ai (Az 1 Z By.e d Z)<|Aw h fun x3 o h=>AD d (Lh _ _ (An d) (hU.mono  Ah) a0 (j.mono  Ah) (k.mono  Ah) (l.mono  Ah) o) fun w4 ab p x=>Ar 3 Z<|A9 AE.e Z p fun w5 b5 q y _=>Ar 1 Z<|Af 0 Z q Z fun w6 e z=>Ad<|Aj<|Ai (Az 0 Z AE.e e Z)<|Af 1 Z e Z fun w7 g aa=>Ad<|Ay ?_
 cases h
 refine Dz (.cell Z Ajx Z AE.e (AG (i:=1) g Z)) ⟨g.ext,Z⟩
def Ky(a b c:Int)(d:AaV)(e f:Int):Option (Qv×(Int×Int)):=
 some ((Qv.mk c ([]) d ([]) e f ([])),(a,b))
def HA(a0:Qv):Option (Qv×(Int×Int)):=
 Qq4 (Gc a0) (fun a=>if a.1=0/\a.2=0 then Qq4 (KU a0 false) (fun b=>Qq4 (Gc b) (fun c=>if c.1=0/\c.2=0 then some (b,(0,0)) else Qq4 (Cn (14:Int) (-1:Int)) (fun d=>some ((Qv.mk (0:Int) ([]) ([]:AaV) ([]) (0:Int) (0:Int) ([])),(d.1,d.2))))) else Ky a.1 a.2 (0:Int) ([]:AaV) (0:Int) (0:Int))
theorem MF(hU:Gq H){a0:Qv}{e g j:Value}(aj:AJ .st H e (a0.f.2.1))(ak:AJ .byte H g (a0.f.2.2.2.1))(al:AJ .Bu H j (a0.f.2.2.2.2.2.2)){r:Qv×(Int×Int)}(h:HA a0=some r):
  Qqv 27 [.agg #[No a0.f.1,e,AaM a0.f.2.2.1,g,No a0.f.2.2.2.2.1,No a0.f.2.2.2.2.2.1,j]] w (fun v w'=>∃ u0 u1 u2,v=.tuple #[.agg #[No r.1.f.1,u0,AaM r.1.f.2.2.1,u1,No r.1.f.2.2.2.2.1,No r.1.f.2.2.2.2.2.1,u2],.agg #[No r.2.1,No r.2.2]]/\AJ .st (un H (nw w w')) u0 (r.1.f.2.1)/\AJ .byte (un H (nw w w')) u1 (r.1.f.2.2.2.1)/\AJ .Bu (un H (nw w w')) u2 (r.1.f.2.2.2.2.2.2)):=by
 refine A1 25 [(0,.agg #[No a0.f.1,e,AaM a0.f.2.2.1,g,No a0.f.2.2.2.2.1,No a0.f.2.2.2.2.2.1,j])] func27 Z fun hL=>Aj<|CD (t:=26) Z Z hL fun w1 b1 bk b0 _=>A9 By.e Z bk fun w2 b2 bl b4 _=>A9 AE.e Z bl fun w3 b3 am b5 _=>Ad<|AB<|Aj<|Ai (Az 2 Z By.e am Z)<|Aw h fun x bm h=>AD am (Ly (a0:=a0) _ _ (An am) (hU.mono  Ah) (aj.mono  Ah) (ak.mono  Ah) (al.mono  Ah) bm) fun w5 ce bn b7=>A9 AE.e Z bn fun w6 b6 bo b8 _=>Af 0 Z bo Z fun w7 l b9=>Ad<|Aj<|Ai (Az 0 Z AE.e l Z)<|Ai (AT (fun _=>BM _))<|Ai (JO Jh (Nc _ _ _ _))<|Ad<|CX h ?_ ?_<;>intro bp h
 ·refine B2 (Int×Int×Int×AaV×Int×Int) (fun⟨ad,ae,af,ag,ah,ai⟩=>[(2,(Aad b2)),(3,(Aad b3))]) (fun⟨ad,ae,af,ag,ah,ai⟩ wr=>Bb w [.box b6 [No x.1,No x.2] 28,.box b3 [No ad,No ae] 28,.box b2 [No af,Aac,AaM ag,Aac,No ah,No ai,Aac] 26,.box b1 [No a0.f.1,e,AaM a0.f.2.2.1,g,No a0.f.2.2.2.2.1,No a0.f.2.2.2.2.2.1,j] 26] wr/\Ky ad ae af ag ah ai=some r) ?_ ?_
  ·refine J7 (NP (Tl MP)) (fun z0 z=>Le (gz H w z0 [.box b6 [No x.1,No x.2] 28,.box b3 [No 0,No 0] 28,.box b2 AbM 26,.box b1 [No a0.f.1,e,AaM a0.f.2.2.1,g,No a0.f.2.2.2.2.1,No a0.f.2.2.2.2.2.1,j] 26]) (hp z)/\z.heap[b6]? = some (.cells [No x.1,No x.2].toArray 28 (0,0))/\z.heap[b3]? = some (.cells [No 0,No 0].toArray 28 (0,0))/\z.heap[b1]? = some (.cells [No a0.f.1,e,AaM a0.f.2.2.1,g,No a0.f.2.2.2.2.1,No a0.f.2.2.2.2.2.1,j].toArray 26 (0,0))) mixed Z (fun an cf a4=>?_);have k:=l.call a4;have p:=k.rG H;refine MQ ⟨p.trans (An k),k.at (i:=0) Z,k.at (i:=1) Z,k.at (i:=3) Z⟩ fun kI32=>A6 0 an kI32 Z (fun _ _=>AT (fun _=>P4 _)) Z<|A6 1 an kI32 Z (fun _ hI=>LM hI.2.1) Z<|FY 2 Z<|Af 2 Z k Z ?_;intro cg m au;have p:=p.trans (Aa au)
   refine AV ⟨p.trans (An m),m.at (i:=0) Z,m.at (i:=1) Z,m.at (i:=3) Z⟩ fun kI34=>FY 3 Z<|Af 1 Z m Z fun ch a5 br=>G7<|EF<|AA (x.1,x.2,0,([]:AaV),0,0) ⟨a5,h⟩
  rintro⟨ad,ae,af,ag,ah,ai⟩ cb ⟨y,h⟩;refine Ay<|Aq ?_
  cases h
  refine Bo (.cell Z Aj3 Z By.e (AG (i:=2) y Z)) (.cell Z Ajx Z AE.e (AG (i:=1) y Z)) ⟨y.ext,_,_,_,Z,(AJ.nil _ _),(AJ.nil _ _),(AJ.nil _ _)⟩
 refine Ax<|As<|Aj<|Ai (Az 3 Z By.e l Z)<|Aw h fun bq a6 h=>Bf l (T0 (a0:=a0) _ _ (An l) (aj.mono  Ah) (ak.mono  Ah) (al.mono  Ah) a6) ?_;rintro _ ci ⟨bs,bt,bu,rfl,ao,ap,aq⟩ aa a7 bv;have b:=ao.mono (Dt l aa);have c:=ap.mono (Dt l aa);have d:=aq.mono (Dt l aa);refine A9 By.e Z a7 fun cj ck a8 q _=>Af 0 Z a8 Z (a:=(Bk Z (Bk b.one (Bk Z (Bk c.one (Bk Z (Bk Z (Bk d.one Kq)))))))) fun cl s u=>Ad<|AB ?_;have a:=s.rG H;refine Aj<|Ai (Az 0 Z By.e s Z)<|Aw h fun cm a9 h=>?_;have b:=b.mono (Aa (q.trans u));have c:=c.mono (Aa (q.trans u));have d:=d.mono (Aa (q.trans u));refine AD s (Ly (a0:=bq) _ _ (An s) (hU.mono  Ah) (b.mono a) (c.mono a) (d.mono a) a9) fun cn cc ba av=>A9 AE.e Z ba fun co cp bb aw _=>Af 0 Z bb Z fun cq o ax=>Ad<|Aj ?_
 refine Ai (Az 0 Z AE.e o Z)<|Ai (AT (fun _=>BM _))<|Ai (JO Jh (Nc _ _ _ _))<|Ad<|CX h ?_ ?_<;>intro bc h
 ·refine Aj<|Ai (AT (fun _=>P4 _))<|Aw h fun cr bd h=>AD o (CE _ _ (An o) bd) fun cs cd be bw=>Af 4 Z be Z fun ct bf bx=>Af 3 Z bf Z fun cu ab bz=>Ad<|Ay<|Aq ?_
  cases h
  refine Bo (.cell Z Aj3 Z By.e (AG (i:=4) ab Z)) (.cell Z Ajx Z AE.e (AG (i:=3) ab Z)) ⟨ab.ext,_,_,_,Z,(AJ.nil _ _),(AJ.nil _ _),(AJ.nil _ _)⟩
 refine Ax<|As<|Aj<|Ai (Az 1 Z By.e o Z)<|Ai (AT (fun _=>BM _)) ?_;have a:=a.trans (Aa (av.trans (aw.trans ax)));refine Af 4 Z o Z (a:=(Bk Z (Bk (b.mono a).one (Bk Z (Bk (c.mono a).one (Bk Z (Bk Z (Bk (d.mono a).one Kq)))))))) fun cv bg ay=>Af 3 Z bg Z fun cw ac az=>Ad<|Ay ?_
 cases h
 refine Bo (.cell Z Aj3 Z By.e (AG (i:=4) ac Z)) (.cell Z Ajx Z AE.e (AG (i:=3) ac Z)) ?_;have a:=a.trans (Aa (ay.trans az));exact⟨ac.ext,_,_,_,Z,((b.mono a).mono  EE),((c.mono a).mono  EE),((d.mono a).mono  EE)⟩
end
end Go.Proofs.YtekmbcbgknmhiaaGreatDoor
end
noncomputable section
namespace Go.L
def iota(n:Nat):List Int:=(Qzv n).map fun i:Nat=>(i:Int)
theorem I3(n:Nat):(iota n).length=n:=by simp [iota]
def PX(n:Nat):List (Fin (n+1)):=(Qzv n).map fun i=>Fin.ofNat (n+1) i
theorem Xb(n:Nat):(PX n).map (fun x=>(x.val:Int))=iota n:=by
 unfold PX iota;rw [Qx0];apply List.map_congr_left;intro i hi;have:=List.mem_range.1 hi
 show((i % (n+1):Nat):Int)=(i:Int)
 rw [Nat.mod_eq_of_lt U]
def K9(a:List UInt8)(x y:Fin (a.length+1)):Int:=Lib.compareBytes (a.drop x.val) (a.drop y.val)
def Aau(a:List UInt8):List (Fin (a.length+1)):=(PX a.length).mergeSort fun x y=>!(Go.Proofs.ltOf (K9 a)) y x
def DH(a:List UInt8):List Int:=(Aau a).map fun x=>(x.val:Int)
theorem Ab6{α:Type}(f:α->List UInt8):Go.Sort.SWO (Go.Proofs.ltOf fun x y=>Lib.compareBytes (f x) (f y)):=by
 constructor
 ·intro x;simp [Go.Proofs.ltOf,V2]
 ·intro x y z a h2;unfold Go.Proofs.ltOf at *;simp only [decide_eq_true_eq] at *;exact NI _ _ _ a h2
 ·intro x y z a h2;unfold Go.Proofs.ltOf at *;simp only [decide_eq_false_iff_not] at *;intro h3;have s1:=KR (f x) (f y);have b:=KR (f y) (f z)
  rcases Int.lt_trichotomy (Lib.compareBytes (f y) (f x)) 0 with h | h | h
  ·have:=NI _ _ _ h h3;omega
  ·rw [QD _ _ h] at h2;omega
  ·omega
theorem PD(a:List UInt8)(x y:Fin (a.length+1))(b:Go.Proofs.ltOf (K9 a) x y=false)(h2:Go.Proofs.ltOf (K9 a) y x=false):x=y:=by
 unfold Go.Proofs.ltOf at b h2;simp only [decide_eq_false_iff_not] at b h2;have s:=KR (a.drop x.val) (a.drop y.val);unfold K9 at b h2;have:=QD _ _ (show Lib.compareBytes (a.drop x.val) (a.drop y.val)=0 by omega);have hl:(a.drop x.val).length=(a.drop y.val).length:=by rw [this]
 simp only [List.length_drop] at hl;have:=x.isLt;have:=y.isLt;exact Fin.ext U
end Go.L
end
noncomputable section
namespace Go.Proofs.YtekmbcbgknmhiaaGreatDoor
open Go Go.E Go.RowKit Go.Sort Go.Shelf
theorem Wz(a b:List UInt8):O9 a b=some (Lib.compareBytes a b):=Z
theorem Aja{O:List BS}{i b:Nat}{cs:List Value}{t:TypeId}(h:ED O i=some (.box b cs t)):BS.box b cs t∈O:=(Fb h).mem_iff.2 (.head _)
theorem Acw{n:Sz}{ops:Array Oper}{Q:Exit->Act->World->Prop}{L:Env}{w f:World}{O:List BS}{rest:List Oper}{d:Nat}{ty:TypeId}{pos:String}{af:Array Edge}{v tv:Value}{H:PH}{i b:Nat}{xs:List Value}{a:List UInt8}{args:List Operand}{at_:Array TypeId}
  (ha:Sk L args=some [v,.func (.func 174) #[] #[.pointer (some ⟨b,0,none⟩)]]) (hn:Nat.blt d n.n=true) (hH:Le H (hp f)) (hL:Bb f O w) (hi:ED O i=some (.row v 3 1 (Go.L.iota a.length).length xs)) (he:AH (.int .i64) (gz H f w O) (Go.L.iota a.length) xs) (htx:AJ .byte (gz H f w O) tv a) (hbox:BS.box b [tv] 23∈O) (hl:a.length<4611686018427387904)
  (h:∀ w' xs',Bb f (DB O i (.row v 3 1 (Go.L.DH a).length xs')) w'->Le (fz w O) (fz w' (DB O i (.row v 3 1 (Go.L.DH a).length xs')))->AH (.int .i64) (gz H f w' (DB O i (.row v 3 1 (Go.L.DH a).length xs'))) (Go.L.DH a) xs'->S Tryz.prog n ops Q rest ((d,.tuple #[])::L) w') :
  S Tryz.prog n ops Q (⟨some d,.call ⟨.value (.func 173),args.toArray,at_⟩,ty,pos,af,none⟩::rest) L w:=by
 have hxs:xs=(Go.L.PX a.length).map (fun x:Fin (a.length+1)=>Value.int .i64 (x.val:Int)):=by
  rw [<- V0 he,<- Go.L.Xb,Qx0];rfl
 have hfl:(Go.L.PX a.length).length=a.length:=by simp [Go.L.PX]
 have hll:(Go.L.DH a).length=(Go.L.iota a.length).length:=by
  unfold Go.L.DH Go.L.Aau;rw [Qzk,List.length_mergeSort,hfl,Go.L.I3]
 have hys:(Go.L.DH a).map (Value.int .i64)=(Go.L.Aau a).map (fun x:Fin (a.length+1)=>Value.int .i64 (x.val:Int)):=by
  unfold Go.L.DH;rw [Qx0];rfl
 refine Vz (l':=Go.L.DH a) (enc:=fun x:Fin (a.length+1)=>Value.int .i64 (x.val:Int)) (dd:=(Go.L.Aau a).toArray) (ys:=(Go.L.DH a).map (Value.int .i64)) ⟨Tryz.f173,_,Tryz.func173,Z,Z⟩ ha hn hL hi (by rw [hys]) hll (by rw [hxs];simp [hll,hfl,Go.L.I3]) (fun l=>?_) (fun hv=>?_) (fun g cap hv hcap=>?_) (fun w' p h2=>h w' _ p h2 (SD _ _))
 ·have p:(Go.L.DH a).length=0:=by rw [hll];exact l
  have h2:xs.length=0:=by rw [hxs,Qzk,hfl];rw [Go.L.I3] at l;exact l
  rw [Qz9 p,Qz9 h2];rfl
 ·subst hv;exact AnyF.slices_SortFunc_none Tryz.AhI none 0 _ w
 ·have hown:w.ownsRow 0 3 1 v (Go.L.iota a.length).length xs:=hL.at hi;rw [hv] at hown;obtain⟨hhk,hblk⟩:=Rl (fun x:Fin (a.length+1)=>Value.int .i64 (x.val:Int)) ((Go.L.PX a.length).toArray) hown (by simpa using hxs.symm);have hsz:(Go.L.iota a.length).length=(Go.L.PX a.length).toArray.size:=by rw [Go.L.I3];simp [hfl]
  have hgo:∀ j x,BS.row v 3 1 j x∈O->True:=fun _ _ _=>trivial;subst hv;have hs:=Any.slices_SortFunc_total (P:=Tryz.prog) Tryz.AiB (fun x:Fin (a.length+1)=>Value.int .i64 (x.val:Int)) (fun _=>Z) (Go.L.K9 a) (Go.L.Ab6 _) 174 #[.pointer (some ⟨b,0,none⟩)] g 0 cap (Go.L.PX a.length).toArray w (enters_of Tryz.func174 Qqb Z) ?_ hhk hblk (by rw [<- hsz,Go.L.I3];exact hl) (Go.L.PD a)
  ·rw [<- hsz] at hs;exact hs.mono fun e w' ⟨he,m,os,hw⟩=>⟨he,m,os,hw⟩
  ·intro m os dk hs x y;have hx:=x.isLt;have hy:=y.isLt
   have hr:NU (x.val:Int) (y.val:Int) a=some (Go.L.K9 a x y):=by
    unfold NU;rw [Go.L.Ac U,Go.L.Ac U,Qq8,Qq8,Wz]
    rfl
   have hne:∀ c,(∃ cs t,BS.box c cs t∈O)->c≠g:=fun c ⟨cs,t,hc⟩ e=>by
    subst e;have hd:=List.pairwise_cons.1 (hL.perm (Fb hi).symm).dis
    have hm:BS.box c cs t∈NL O i:=by
     rcases List.mem_cons.1 ((Fb hi).mem_iff.1 hc) with h | h
     ·cases h
     ·exact h
    exact hd.1 _ hm c Z Z
   have hkeep:∀ k o,w.heap[k]? = some o->k≠g->(sortWorld (fun x:Fin (a.length+1)=>Value.int .i64 (x.val:Int)) w g 0 m dk os).heap[k]? = some o:=fun k o hk hkg=>by
    rw [NW _ w g m dk os k (lt_of_heap hk),if_neg hkg];exact hk
   have hle:Le (fz w O) (hp (sortWorld (fun x:Fin (a.length+1)=>Value.int .i64 (x.val:Int)) w g 0 m dk os)):=fun c o hc=>by
    refine hkeep c o (AaY w O c o hc) fun e=>?_;subst e;have hown:owned O c=true:=Ej.2 ⟨_,(Fb hi).mem_iff.2 (.head _),Z⟩;unfold fz at hc;rw [if_pos hown] at hc
    cases hc
   have hbx:IM (hp (sortWorld (fun x:Fin (a.length+1)=>Value.int .i64 (x.val:Int)) w g 0 m dk os)) ⟨b,0,none⟩ [tv]:=by
    have hok:w.heap[b]? = some (.cells #[tv] 23 (0,0)):=hL.res _ hbox;have hh:=hkeep b _ hok (hne b ⟨_,_,hbox⟩);refine⟨Z,fun j u hu=>?_⟩;simp only [Addr.add_lit,Nat.zero_add,IE,hp,hh]
    simpa using hu
   have hk:=@S6 ⟨true⟩ (sortWorld (fun x:Fin (a.length+1)=>Value.int .i64 (x.val:Int)) w g 0 m dk os) (hp _) (Le.refl _) _ _ _ _ _ (htx.mono ((Adv hH hL).trans hle)) hbx _ hr;refine hk.2.mono fun en w' ⟨u,he,hx,hu⟩=>?_;subst he;subst hu;obtain⟨q,os',hw⟩:=@Za ⟨true⟩ _ _ Z hx;exact⟨Z,q,os',hw⟩
end Go.Proofs.YtekmbcbgknmhiaaGreatDoor
end
noncomputable section
namespace Go.Proofs.YtekmbcbgknmhiaaGreatDoor
open Go Go.E Go.RowKit Go.L
set_option maxHeartbeats 1000000
set_option maxRecDepth 10000
open _root_.Go.Proofs.Tryz
def N8(a0 a1:Int):Option ((Int×Int)):=
 some ((a0,a1))
section
variable(w:World)(H:PH)(hH:Le H (hp w)) include hH
theorem Uu{a0 a1:Int}{r:(Int×Int)}(h:N8 a0 a1=some r):
  Qqv 122 [No a0,No a1] w (fun v w'=>v=.agg #[No r.1,No r.2]):=by
 refine A1 8 [(0,No a0),(1,No a1)] func122 Z fun hL=>Aj<|A9 AE.e Z hL fun e f b c _=>Ad<|Bx 2 Z<|Ai (AT (fun _=>M6 _ _ _))<|Af 0 Z b Z fun g a d=>Ad<|Ay ?_
 cases h
 refine Dz (.cell Z Ajx Z AE.e (AG (i:=0) a Z)) ⟨a.ext,Z⟩
def Iu(a0:AaV)(a:List Int):Option ((List Int)):=
 AN (a=Go.L.iota a0.length/\a0.length<4611686018427387904) (some ((DH a0)))
def Es(a0:AaV):(List Int)×Int->Option (((List Int)×Int) ⊕ ((List Int))):=fun⟨b,a⟩=>
 if a<((Qzz (a0.length:Int).toNat (0:Int)).length:Int) then AN (0<=a/\a<(b.length:Int)) (AN (Bz (a+1)) (some (Sum.inl ((b.set a.toNat a),(a+1))))) else Qq7 Sum.inr ((Iu a0) b)
def Li(a0:AaV)(s:(List Int)×Int):Option ((List Int)):=Go.L.run (Es a0) s
def Kz(a0:AaV):Option ((List Int)):=
 AN (0<=(a0.length:Int)/\((8:Nat):Int) * (a0.length:Int)<=281474976710656/\(a0.length:Int)<=9223372036854775807) ((Li a0) ((Qzz (a0.length:Int).toNat (0:Int)),0))
theorem Uv{a0:AaV}{f:Value}(k:AJ .byte H f a0){r:(List Int)}(h:Kz a0=some r):
  Qqv 123 [f] w (fun v w'=>∃ u0,v=u0/\Ck 3 (.int .i64) H w w' u0 r):=by
 refine A1 22 [(0,f)] func123 Z fun hL=>Aj<|Q1 (t:=23) Z k.one hL fun w1 y ab av _=>A8 1 Z<|Aj<|Ai (Ag 0 Z ab Z)<|Ai (Bm k)<|A2 h fun ao h=>X9 (r:=(.int .i64)) (z:=0) AhD (fun _=>Z) hH ab ao fun v2 w2 ap ac aw aq=>A8 1 Z<|B2 ((List Int)×(List Value)) (fun⟨g,e⟩=>[(1,(Aad y)),(3,v2)]) (fun⟨g,e⟩ wr=>FX w [.row v2 3 1 (g).length e,.box y [f] 23] wr fun Oz=>AH (.int .i64) (gz H w wr Oz) g e/\(Iu a0) g=some r) ?_ ?_
 ·refine Bx 1 Z<|Ai (Qw 0 Z ac Z)<|A8 1 Z<|A4 ?_;obtain⟨q,h⟩:=Ba h;refine B7 ((List Int)×Int×(List Value)×Nat) (fun⟨d,b,c,n⟩=>[(1,(Aad y)),(3,v2),(9,No ((Qzz (a0.length:Int).toNat (0:Int)).length:Int)),(10,No b)]) (fun⟨d,b,c,n⟩ wr=>FX w [.row v2 3 1 (d).length c,.box y [f] 23] wr fun Oz=>AH (.int .i64) (gz H w wr Oz) d c/\Ia (Es a0) n (d,b)=some r) (fun⟨d,b,c,n⟩=>n) ((Qzz (a0.length:Int).toNat (0:Int)),0,ap,q) Z ⟨ac,aq,h⟩ ?_;rintro⟨d,b,c,nn36⟩ ax ⟨l,o,h⟩;obtain⟨q,a1,rfl,h,s⟩:=AZ h;refine AI 1 Z<|AB<|AQ h ?_ ?_<;>intro ad h
  ·refine Ax<|As<|AB<|A4<|AI 2 Z<|Au<|Ar 3 Z<|A2 h fun m h=>KE 0 Z AhD CR.e l Z b.toNat (GX m) (AX m) fun a2 ae=>KF 0 b.toNat b Z Z hH l Z o ae (AX m) Z fun a3 af ag ar ah=>AL<|A3<|As<|Au<|A2 h fun ai h=>Ai (A7 ai)<|Ar 1 Z<|AL ?_;have h:=Cf.again h s;refine AM (_,_,_,_) Z ⟨ag,ah,h⟩
  refine B4<|AF<|A5 ?_;have h:=Cf.out h s;refine Bg<|AA (_,_) ⟨l,o,h⟩
 rintro⟨g,e⟩ ay ⟨u,p,h⟩;refine Bx 2 Z<|A2 h fun aj h=>?_;obtain⟨ak,al⟩:=aj;rw [ak] at u p;refine Acw (i:=0) (a:=a0) Z Z hH u Z p (k.mono  Ah) (Aja (i:=1) Z) al fun a4 az x au am=>Ad<|AI 2 Z<|Ay ?_
 cases h
 refine Al Z ⟨x.ext,_,Z,(x.Iq hH (i:=0) Z am)⟩
def K0(a0:AaV):Option Akj:=
 if 2048<(a0.length:Int) then Qq4 (N8 (3:Int) (-1:Int)) (fun a=>some ([],(a.1,a.2))) else Qq4 (Kz a0) (fun b=>some (b,(0,0)))
theorem Uw{a0:AaV}{b:Value}(d:AJ .byte H b a0){r:(List Int)×(Int×Int)}(h:K0 a0=some r):
  Qqv 74 [b] w (fun v w'=>∃ m,v=.tuple #[m,.agg #[No r.2.1,No r.2.2]]/\Ck 3 (.int .i64) H w w' m (r.1)):=by
 refine A1 11 [(0,b)] func74 Z fun hL=>Bx 1 Z<|A9 AE.e Z hL fun w1 b1 a u _=>Ad<|AB<|Bx 1 Z<|Ai (Bm d)<|A8 1 Z<|AQ h ?_ ?_<;>intro o h
 ·refine Aj<|Aw h fun x4 p h=>AD a (Uu _ _ (An a) p) fun w5 aa q x=>Ar 1 Z<|Af 0 Z q Z fun w6 j y=>Ad<|Ay<|Aq ?_
  cases h
  refine Bo (.tmp Z) (.cell Z Ajx Z AE.e (AG (i:=0) j Z)) ⟨j.ext,_,Z,Ck.nil⟩
 refine Ax<|As<|Bx 1 Z<|Aw h fun x8 s h=>Bf a (Uv _ _ (An a) (d.mono  Ah) s) ?_;rintro z w9 ⟨_,rfl,f⟩ t k l;obtain⟨ab,k,l,e⟩:=f.take hH a t;refine Ai (AT (fun _=>BM _))<|Ar 1 Z<|Af 1 Z k Z fun ac c g=>Ad<|Ay ?_
 cases h
 refine Bo (.tmp Z) (.cell Z Ajx Z AE.e (AG (i:=1) c Z)) ?_;have e:=e.mono (Aa g);exact⟨c.ext,_,Z,(c.Iq hH (i:=0) Z e)⟩
end
end Go.Proofs.YtekmbcbgknmhiaaGreatDoor
end
