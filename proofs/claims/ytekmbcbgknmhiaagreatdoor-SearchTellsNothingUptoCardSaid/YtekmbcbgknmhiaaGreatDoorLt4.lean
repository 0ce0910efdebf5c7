/- Texts of a claim, merged. -/
import Derived.Test.YtekmbcbgknmhiaaGreatDoorLt3
import Derived.KernelRfl
import Derived.Shelf.SlSortCmp.NoneTotal
open _root_.Go.Proofs.Tryz renaming underlying22→Aed,underlying23→Afr,underlying58→Ahx,underlying44→Aj0,underlying46→Aj1,underlying135→Aj4,underlying24→Aj6,underlying28→Aje,underlying26→Ajl,underlying109→Ajn,underlying137→Ajp,underlying192→Ajz
open Option renaming bind->Qq4,map->Qq7
open Int renaming toNat_natCast->Qq8
open Prod renaming fst->Qq5
open List renaming replicate->Qzz,length_map->Qzk,range->Qzv,eq_nil_of_length_eq_zero->Qz7,map_cons->Qze,mem_map_of_mem->QkB,map_map->Qx0
open Nat renaming le_refl->Qzx
set_option linter.unusedVariables false
set_option linter.unusedSimpArgs false
set_option linter.unusedSectionVars false
noncomputable section
namespace Go
abbrev AjM:=List (AcC×Int×Int)
end Go
namespace Go.Proofs.YtekmbcbgknmhiaaGreatDoor
open Go Go.E Go.RowKit Go.L
set_option maxHeartbeats 1000000
set_option maxRecDepth 10000
open _root_.Go.Proofs.Tryz
def H3(c:Int)(d:AcC)(a:List (AcC×Int×Int))(b:Int):Option ((AjM×Int) ⊕ (AjM)):=
 AN (Go.E.H7 32 (a.length+1)) (Qq7 Sum.inr (some ((a++[(d,c,b)]))))
def CI(a1:AcC)(d:List (AcC×Int×Int))(e:Int):AcC×Int->Option ((AcC×Int) ⊕ ((AjM×Int) ⊕ (AjM))):=fun⟨c,a⟩=>
 if a<(a1.length:Int) then AN (0<=a/\a<=(a1.length:Int)) (Qq4 (Ko (a1.drop a.toNat)) (fun b=>if b.1=([]:AcC) then AN (Bz (a+b.2)) (if c=([]:AcC) then Qq7 Sum.inr (some (Sum.inl (d,(a+b.2)))) else AN (Go.E.H7 32 (d.length+1)) (Qq7 Sum.inr (some (Sum.inl ((d++[(c,e,a)]),(a+b.2)))))) else AN (c.length+b.1.length<=9223372036854775807) (AN (Bz (a+b.2)) (some (Sum.inl ((c++b.1),(a+b.2))))))) else Qq7 Sum.inr ((H3 e) c d a)
def M3(a1:AcC)(b:List (AcC×Int×Int))(a:Int)(s:AcC×Int):Option ((AjM×Int) ⊕ (AjM)):=Go.L.run (CI a1 b a) s
def CJ(a1:AcC):AjM×Int->Option ((AjM×Int) ⊕ (AjM)):=fun⟨b,a⟩=>
 if a<(a1.length:Int) then(M3 a1 b a) (([]:AcC),a) else Qq7 Sum.inr (some b)
def M4(a1:AcC)(s:AjM×Int):Option (AjM):=Go.L.run (CJ a1) s
def KJ(a0:List (AcC×Int×Int))(a1:AcC):Option (AjM):=
 (M4 a1) (a0,0)
theorem Tj{l w:World}{H:PH}(hH:Le H (hp l))(hU:Ge H){O:List BS}{a0:List (AcC×Int×Int)}{a1:AcC}{la0 Da0 ba0:Nat}{ca0:Loop}{va0:Value}{xsa0:List Value}{va1_0:Value}{pa1:Addr}(bb:Adl prog (.pair .st AjW) 3 32 la0 Da0 ba0 ca0 131 135)(hL:Bb l (Ha [.obj la0 (.loop ca0),.obj Da0 (.deferred (some [])),.box ba0 [va0] 131,.row va0 135 3 (a0).length xsa0] O) w)(b2:AG (.pair .st AjW) (gz H l w (Ha [.obj la0 (.loop ca0),.obj Da0 (.deferred (some [])),.box ba0 [va0] 131,.row va0 135 3 (a0).length xsa0] O)) a0 xsa0)(be:AJ .byte (gz H l w (Ha [.obj la0 (.loop ca0),.obj Da0 (.deferred (some [])),.box ba0 [va0] 131,.row va0 135 3 (a0).length xsa0] O)) va1_0 a1)(b3:IM (gz H l w (Ha [.obj la0 (.loop ca0),.obj Da0 (.deferred (some [])),.box ba0 [va0] 131,.row va0 135 3 (a0).length xsa0] O)) pa1 [va1_0]){r:AjM}(h:KJ a0 a1=some r):
  Ok prog 180 [.func (.yield la0) #[] #[],.pointer (some pa1)] w (fun v w'=>∃ (u0:Value) (y0:List Value),v=.tuple #[]/\Bb l (Ha [.obj la0 (.loop ca0),.obj Da0 (.deferred (some [])),.box ba0 [u0] 131,.row u0 135 3 (r).length y0] O) w'/\Le (fz w (Ha [.obj la0 (.loop ca0),.obj Da0 (.deferred (some [])),.box ba0 [va0] 131,.row va0 135 3 (a0).length xsa0] O)) (fz w' (Ha [.obj la0 (.loop ca0),.obj Da0 (.deferred (some [])),.box ba0 [u0] 131,.row u0 135 3 (r).length y0] O))/\AG (.pair .st AjW) (gz H l w' (Ha [.obj la0 (.loop ca0),.obj Da0 (.deferred (some [])),.box ba0 [u0] 131,.row u0 135 3 (r).length y0] O)) r y0):=by
 refine Dp (n:=53) [(0,.func (.yield la0) #[] #[]),(1,.pointer (some pa1))] func180 Z Z Z Z ?_;have hT:=Le.refl (fz w (Ha [.obj la0 (.loop ca0),.obj Da0 (.deferred (some [])),.box ba0 [va0] 131,.row va0 135 3 (a0).length xsa0] O));refine Ur ?_;have bc:=hL.rG H;refine AI 1 Z<|AB<|AaV<|Ar<|A3 ?_;obtain⟨a6,h⟩:=Ba h;refine B5 (AjM×Int×Value×(List Value)×Nat) (fun⟨m,a,g,d,n⟩=>[(0,.func (.yield la0) #[] #[]),(1,.pointer (some pa1)),(3,No a)]) (fun⟨m,a,g,d,n⟩ wr=>FI l (Ha [.obj la0 (.loop ca0),.obj Da0 (.deferred (some [])),.box ba0 [g] 131,.row g 135 3 (m).length d] O) wr fun Oz=>IM (gz H l wr Oz) pa1 [va1_0]/\AJ .byte (gz H l wr Oz) va1_0 a1/\AG (.pair .st AjW) (gz H l wr Oz) m d/\Le (fz w (Ha [.obj la0 (.loop ca0),.obj Da0 (.deferred (some [])),.box ba0 [va0] 131,.row va0 135 3 (a0).length xsa0] O)) (fz wr Oz)/\H8 (CJ a1) n (m,a)=some r) (fun⟨m,a,g,d,n⟩=>n) (a0,0,va0,xsa0,a6) Z ⟨hL,(b3.mono bc),(be.mono bc),(b2.mono bc),hT,h⟩ ?_;rintro⟨m,a,g,d,nn68⟩ cc ⟨af,aq,ar,a7,hT,h⟩;obtain⟨a6,b1,rfl,h,ag⟩:=AY h;refine AB ?_;have x:=af.rG H
 refine Bt 1 Z<|Ai (Bl (aq.mono x) (An af))<|Ai (Bk (ar.mono x))<|A7 1 Z<|AO h ?_ ?_<;>intro b4 h
 ·refine Av<|Ar<|A3<|Bt 1 Z<|Ai (AT (fun _=>AdA _ _))<|A9 OO.e Z af fun cj aa b5 ah _=>Af 0 Z b5 Z fun ck b6 ai=>Ac<|By (AcC×AjM×Int×Value×(List Value)) (fun⟨p,y,f,k,o⟩=>[(0,.func (.yield la0) #[] #[]),(3,No f),(4,(Acy aa))]) (fun⟨p,y,f,k,o⟩ wr=>FI l (Ha [.box aa [AcB p,No a,No 0] 135,.obj la0 (.loop ca0),.obj Da0 (.deferred (some [])),.box ba0 [k] 131,.row k 135 3 (y).length o] O) wr fun Oz=>AG (.pair .st AjW) (gz H l wr Oz) y o/\Le (fz w (Ha [.obj la0 (.loop ca0),.obj Da0 (.deferred (some [])),.box ba0 [va0] 131,.row va0 135 3 (a0).length xsa0] O)) (fz wr Oz)/\(H3 a) p y f=some b1) ?_ ?_
  ·refine A3 ?_;obtain⟨a3,h⟩:=Ba h;have x:=x.trans (Aa (ah.trans ai));have hT:=hT.trans (ah.trans ai);refine B5 (AcC×Int×Nat) (fun⟨j,c,n⟩=>[(0,.func (.yield la0) #[] #[]),(1,.pointer (some pa1)),(3,No c),(4,(Acy aa))]) (fun⟨j,c,n⟩ wr=>FI l (Ha [.box aa [AcB j,No a,No 0] 135,.obj la0 (.loop ca0),.obj Da0 (.deferred (some [])),.box ba0 [g] 131,.row g 135 3 (m).length d] O) wr fun Oz=>IM (gz H l wr Oz) pa1 [va1_0]/\AJ .byte (gz H l wr Oz) va1_0 a1/\AG (.pair .st AjW) (gz H l wr Oz) m d/\Le (fz w (Ha [.obj la0 (.loop ca0),.obj Da0 (.deferred (some [])),.box ba0 [va0] 131,.row va0 135 3 (a0).length xsa0] O)) (fz wr Oz)/\H8 (CI a1 m a) n (j,c)=some b1) (fun⟨j,c,n⟩=>n) (([]:AcC),a,a3) Z ⟨b6,(aq.mono x),(ar.mono x),(a7.mono x),hT,h⟩ ?_;rintro⟨j,c,nn155⟩ b9 ⟨z,q,t,he155_Ra0,hT,h⟩;obtain⟨a3,cd,rfl,h,ad⟩:=AY h;refine AB ?_;have b:=z.rG H;refine Bt 1 Z<|Ai (Bl (q.mono b) (An z))<|Ai (Bk (t.mono b))<|A7 1 Z ?_
   refine AO h ?_ ?_<;>intro bf h
   ·refine Av<|Ar<|A3<|Aj<|Ai (Bl (q.mono b) (An z))<|Aq 1 Z<|A1 h fun bg h=>Y7 (t.mono b) bg fun ce bh=>Aw h fun aj bi h=>AE z (Uf _ _ (An z) (hU.mono  Ah) bh bi) fun cf ca ak u=>A7 5 Z<|AB<|Bt 1 Z<|Ai (Ni Z Z)<|Ac<|AO h ?_ ?_<;>intro bj h
    ·refine Bt 1 Z<|Ai (Ae Z Aj4 Z CO.e)<|B8 0 Z Z ak Z Z fun a4 ab ac=>Ac<|Bt 2 Z<|A1 h fun bk h=>Ai (A6 bk)<|A7 1 Z<|AB<|Adj<|NF (CZ (CZ (CZ (Bm (DQ (Bm (Mt (Bm (DQ (Bm (HA Jk)))))))))))<|Ai (Ae Z Aj4 Z HC.e)<|Jl<|NF (CZ (CZ (CZ (Bm (DQ (Bm (Mt (Bm (DQ (Bm (HA Jk)))))))))))<|Ai (Ag 0 Z ab Z)<|Jl<|NF (CZ (CZ (CZ (Bm (DQ (Bm (Mt (Bm (DQ (Bm (HA Jk)))))))))))<|Ai (Sb Z Z)<|Jl<|NF (CZ (CZ (CZ (Bm (DQ (Bm (Mt (Bm (DQ (Bm (HA Jk)))))))))))<|Aq 1 Z<|Jl<|Adk (s:=34) Z (fun e=>?_) (fun e=>?_)
     ·have h:=OI (W6 e) h;refine Pr e<|NF (CZ (CZ (CZ (Bm (DQ (Bm (Mt (Bm (DQ (Bm (HA Jk)))))))))))<|Aq 1 Z<|Jl<|Pr e<|NF (CZ (CZ (CZ (Bm (DQ (Bm (Mt (Bm (DQ (Bm (HA Jk)))))))))))<|Ai (A4 0 Z OO.e ab Z)<|Jl<|Pr e ?_;have al:Bb l (Ha [.box ba0 [g] 131,.row g 135 3 (m).length d,.box aa [AcB j,No a,No c] 135,.obj la0 (.loop ca0),.obj Da0 (.deferred (some []))] O) a4:=ab.Cy [4,4] Z;have au:=B0 [4,4] ab al Z;have a8:Bb l (Ha [.obj la0 (.loop ca0),.obj Da0 (.deferred (some [])),.box ba0 [g] 131,.row g 135 3 (m).length d,.box aa [AcB j,No a,No c] 135] O) a4:=al.Cy [4,4] Z;have av:=B0 [4,4] al a8 Z;refine A1 h fun bl h=>?_;have b:=b.trans (Aa (u.trans (ac.trans (au.trans av))))
      have bm:=@bb l a4 H ((Ha [.box aa [AcB j,No a,No c] 135] O)) g (.agg #[AcB j,No a,No c]) d [AcB j,No a,No c] m (j,a,c) hH a8 (he155_Ra0.mono b) Z ⟨_,_,Z,Z,⟨_,_,Z,Z,Z⟩⟩ bl;refine Y9 bm ?_;rintro cg ⟨b7,bn,bo,aw,am⟩;refine Pr e<|NF (CZ (CZ (CZ (Bm (DQ (Bm (Mt (Bm (DQ (Bm (HA Jk)))))))))))<|Aq 1 Z<|Jl<|NF (CZ (CZ (CZ (Bm (DQ (Bm (Mt (Bm (DQ (Bm (HA Jk)))))))))))<|Ai (AK e Z)<|Jl<|Tb<|Gt<|Av<|Ar<|B2<|AD<|Mp<|A5 ?_;have h:=Ce.out h ad;refine Mp<|Qe<|Bf ?_;have bp:=bo.AQ (i:=4) Z;have h:=Ce.again h ag;have hT:=hT.trans (u.trans (ac.trans (au.trans (av.trans (aw.trans (Ak (i:=4) Z))))));have b:=b.trans (Aa (aw.trans (Ak (i:=4) Z)));have am:=am.mono (Aa (Ak (i:=4) Z))
      refine AM (_,_,_,_,_) Z ⟨bp,(q.mono b),(t.mono b),am,hT,h⟩
     have h:=OH (W7 e) h;refine NF (CZ (CZ (CZ (Bm (DQ (Bm (Mt (Bm (DQ (Bm (HA Jk)))))))))))<|Au e<|Jl<|NF (CZ (CZ (CZ (Bm (DQ (Bm (Mt (Bm (DQ (Bm (HA Jk)))))))))))<|Au e<|Jl<|NF (CZ (CZ (CZ (Bm (DQ (Bm (Mt (Bm (DQ (Bm (HA Jk)))))))))))<|Au e<|Jl<|NF (CZ (CZ (CZ (Bm (DQ (Bm (Mt (Bm (DQ (Bm (HA Jk)))))))))))<|Au e<|Jl<|NF (CZ (CZ (CZ (Bm (DQ (Bm (Mt (Bm (DQ (Bm (HA Jk)))))))))))<|Ai (AS e Z)<|Jl<|Tb<|Gt<|Av<|Ar<|B2<|AD<|Mp<|A5 ?_;have h:=Ce.out h ad;refine Mp<|Qe<|Bf ?_;have bq:=ab.AQ (i:=0) Z;have h:=Ce.again h ag;have b:=b.trans (Aa (u.trans (ac.trans (Ak (i:=0) Z))))
     have hT:=hT.trans (u.trans (ac.trans (Ak (i:=0) Z)));refine AM (_,_,_,_,_) Z ⟨bq,(q.mono b),(t.mono b),(he155_Ra0.mono b),hT,h⟩
    refine Av<|Ar<|Aj<|Ai (Ae Z Aj4 Z HC.e)<|Ai (Ag 0 Z ak Z)<|Aq 1 Z<|A1 h fun br h=>Ai (L4 br)<|Ai (Ae Z Aj4 Z HC.e)<|B8 0 Z Z ak Z Z fun ch bs ax=>Ac<|As<|Aq 2 Z<|A1 h fun bt h=>Ai (A6 bt)<|Aq 1 Z<|AL<|A2 ?_;have h:=Ce.again h ad;have b:=b.trans (Aa (u.trans ax));have hT:=hT.trans (u.trans ax);refine AM (_,_,_) Z ⟨bs,(q.mono b),(t.mono b),(he155_Ra0.mono b),hT,h⟩
   refine B2<|AD<|A5 ?_;have h:=Ce.out h ad;refine Bf<|AA (_,_,_,_,_) ⟨z,(he155_Ra0.mono b),hT,h⟩
  have hT:=hT.trans (ah.trans ai);rintro⟨p,y,f,k,o⟩ cb ⟨bu,ae,hT,h⟩;refine Bt 1 Z<|Ai (Ae Z Aj4 Z CO.e)<|B8 0 Z Z bu Z Z fun a5 an ay=>Ac<|Adj<|NF (CZ (Bm (DQ (Bm (HA Jk)))))<|Aq 1 Z<|Jl<|NF (CZ (Bm (DQ (Bm (HA Jk)))))<|Ai (A4 0 Z OO.e an Z)<|Jl ?_;have ao:Bb l (Ha [.box ba0 [k] 131,.row k 135 3 (y).length o,.box aa [AcB p,No a,No f] 135,.obj la0 (.loop ca0),.obj Da0 (.deferred (some []))] O) a5:=an.Cy [4,4] Z;have az:=B0 [4,4] an ao Z;have a9:Bb l (Ha [.obj la0 (.loop ca0),.obj Da0 (.deferred (some [])),.box ba0 [k] 131,.row k 135 3 (y).length o,.box aa [AcB p,No a,No f] 135] O) a5:=ao.Cy [4,4] Z;have a2:=B0 [4,4] ao a9 Z;refine A1 h fun bv h=>?_;have ae:=ae.mono (Aa (ay.trans (az.trans a2)))
  have bw:=@bb l a5 H ((Ha [.box aa [AcB p,No a,No f] 135] O)) k (.agg #[AcB p,No a,No f]) o [AcB p,No a,No f] y (p,a,f) hH a9 ae Z ⟨_,_,Z,Z,⟨_,_,Z,Z,Z⟩⟩ bv;refine Y9 bw ?_;rintro ci ⟨b8,bx,bz,bd,ap⟩;refine Tb<|Ay<|Ax<|BN ?_;have h:=Ce.out h ag;refine Ax<|Gu ?_
  cases h
  refine Af9 ?_;have b0:=bz.AQ (i:=4) Z;have hT:=hT.trans (ay.trans (az.trans (a2.trans (bd.trans (Ak (i:=4) Z)))));have ap:=ap.mono (Aa (Ak (i:=4) Z));exact⟨b8,bx,Z,b0,hT,ap⟩
 refine B2<|AD<|A5 ?_;have h:=Ce.out h ag;refine Bf<|Adh ?_
 cases h
 refine L3 ⟨g,d,Z,af,hT,(a7.mono x)⟩
end Go.Proofs.YtekmbcbgknmhiaaGreatDoor
end
noncomputable section
namespace Go.Proofs.YtekmbcbgknmhiaaGreatDoor
open Go Go.E Go.RowKit
def Iter(H:PH)(v:Value)(l:List UInt8):Prop:=∃ p u,v=.func (.func 180) #[] #[.pointer (some p)]/\IM H p [u]/\AJ .byte H u l
theorem Iter.mono{H H':PH}{v:Value}{l:List UInt8}(h:Iter H v l)(hs:Le H H'):Iter H' v l:=by
 obtain⟨p,u,a,h2,h3⟩:=h;exact⟨p,u,a,h2.mono hs,h3.mono hs⟩
abbrev rpW:Rp (List UInt8×Int×Int):=.pair .st (.pair (.int .i64) (.int .i64))
def OV(l:List UInt8):Option (List (List UInt8×Int×Int)):=KJ [] l
section
variable(w:World)(H:PH)(hH:Le H (hp w)) include hH
theorem YU{a0:List UInt8}{b:Value}(e:AJ .byte H b a0):
  Ok Tryz.prog 129 [b] w (fun v w'=>Ext w w'/\Iter (un H (nw w w')) v a0):=by
 refine Dp (n:=4) [(0,b)] Tryz.func129 Z Z Z Z ?_;have hL:=Bb.start w;refine Aj<|Qq (t:=23) Z e.one hL fun c a d l _=>Aq 1 Z<|Ac<|Aj<|Aq 2 Z<|Ac<|Ay<|Um Z Z ?_;have f:IM (hp c) ⟨a,0,none⟩ [b]:=AH (i:=0) d Z;have hn:a>=w.heap.size:=d.own _ (.head _) a Z;refine⟨d.ext,⟨a,0,none⟩,b,Z,⟨Z,fun j u hj=>?_⟩,e.mono (Ms hH)⟩;have g:=f.2 j u hj
 have h2:un H (nw w c) a=hp c a:=by
  have h3:nw w c a=hp c a:=by unfold nw;rw [if_pos hn];rfl
  cases h:hp c a with
  | none=>
   have:=d.at (i:=0) Z;have k:c.heap[a]? = none:=h;rw [show c.heap[a]? = _ from this] at k
   cases k
  | some o=>exact Ip a o (h3.trans h)
 simp only [Addr.add_lit,ID] at g ⊢;rw [h2];exact g
end
set_option maxRecDepth 10000 in
section
variable(w:World)(H:PH)(hH:Le H (hp w)) include hH
theorem XE(hU:Ge H){p:Addr}{u:Value}{l0:List UInt8}(hpt:IM H p [u])(hv:AJ .byte H u l0){r:List (List UInt8×Int×Int)}(h:KJ [] l0=some r):
  Ok Tryz.prog 179 [.slice none 0 0,.func (.func 180) #[] #[.pointer (some p)]] w (fun v w'=>Ext w w'/\Ci 135 rpW H w w' v r):=by
 refine AbO (k:=13) [(0,.slice none 0 0),(1,.func (.func 180) #[] #[.pointer (some p)])] Tryz.func179 Z Z Z Z ?_;have hL:=Bb.start w;refine Aj<|Qq (t:=131) Z Z hL fun w1 d af ax _=>Aq 1 Z<|Ac<|AB<|Aj<|Aq 1 Z<|Ac<|A3<|AfI (cap:=[.pointer (some p)]) Z ⟨Tryz.f180,_,Tryz.func180,Z,Z⟩ af ?_;intro a fr fn l D w2 rec hrec ag ay
 have hY:Adl Tryz.prog rpW 3 32 l D d rec 131 135:=by
  subst hrec;refine Adp (p:=7) (k:=13) Z Z Z ⟨fr.size,Z,fr.get⟩ Z ?_;intro x0 x1 G P v y xs c m x hG hM he hy hx hc;obtain⟨xa,xb,xc⟩:=x;obtain⟨_,_,rfl,rfl,_,_,rfl,rfl,rfl⟩:=hx;refine W9 Z AfH<|A9 OO.e Z hM fun w3 bx ah f _=>SV 0 Z Z hy OO.e ah Z Z (Bn Z (Bn Z (Bn Z Ky))) fun w4 ai g=>AL<|Ado (i:=1) Z ai Z fun w5 b j=>Adm<|W9 Z (Bm Adn)<|Ai (Qo 3 Z b Z Z)<|Ai (A4 0 Z OO.e b Z)<|B6 [(xa,xb,xc)] (r:=rpW) (fun _=>AdD _ _ _ _) (hlen:=(show 1<=9223372036854775807 by decide)) (hH:=hG) b (.c3 ⟨_,_,Z,Z,_,_,Z,Z,Z⟩ .nil) fun v6 w6 a6 aj n ak=>Br (r:=rpW) 4 m [(xa,xb,xc)] Z Tryz.underlying131 (hH:=hG) aj Z (((he.mono (Aa (hH:=hG) f)).mono (Aa (hH:=hG) g)).mono (Aa (hH:=hG) j) |>.mono (Aa (hH:=hG) n)) ak hc fun v7 w7 al o am an=>B8 3 Z (row_one (o.at (i:=4) Z)) o Z Z fun w8 ao q=>AL<|A2<|X2 (i:=1) ao Z ?_;intro w9 ap s;refine⟨Z,v7,al,ap.AQ (i:=0) Z,((((((f.trans g).trans j).trans n).trans am).trans q).trans s).trans (Ak (i:=0) Z),?_⟩
  exact((an.mono (Aa (hH:=hG) q)).mono (Aa (hH:=hG) s)).mono (Aa (hH:=hG) (Ak (i:=0) Z))
 obtain⟨aq,a3,a7⟩:=DG rpW H 135 ag
 have ar:(yR l D d rec 131 135 3 (.slice none 0 0) ([]:List (List UInt8×Int×Int)).length []++[]).Perm (.row (.slice none 0 0) 135 rpW.sz ([]:List (List UInt8×Int×Int)).length []::[.obj l (.loop rec),.obj D (.deferred (some [])),.box d [.slice none 0 0] 131]):=
  List.perm_append_comm (l₁:=([.obj l (.loop rec),.obj D (.deferred (some [])),.box d [.slice none 0 0] 131]:List BS)) (l₂:=([.row (.slice none 0 0) 135 3 0 []]:List BS))
 have au:=aq.perm ar;have hc:=Tj hH hU (O:=[]) hY au .nil (hv.mono  Ah) (hpt.mono  Ah) h;refine hc.2.mono fun e w5 ⟨v5,av,hR⟩=>⟨⟨v5,av⟩,?_⟩;obtain⟨u0,y0,_,aw,a5,ab⟩:=hR;refine⟨_,aw,fun w6 z ac=>?_⟩;refine A2<|Ar<|Aj<|Ai (Qo 2 Z z Z Z)<|Aq 1 Z<|Ac<|Ay<|AfJ (i:=1) (l:=[.tmp 4]) Z Z z Z ?_;intro w7 aa ad;exact⟨aa.ext,aa.Ii hH (i:=3) Z ((ab.mono (Aa ac)).mono (Aa ad))⟩
theorem Vv(hU:Ge H){a:Value}{a0:List UInt8}(b:Iter H a a0){r:List (List UInt8×Int×Int)}(h:OV a0=some r):
  Ok Tryz.prog 128 [a] w (fun v w'=>Ext w w'/\∃ c,v=c/\Ci 135 rpW H w w' c r):=by
 obtain⟨p,u,rfl,h2,h3⟩:=b;refine Dp (n:=5) [(0,.func (.func 180) #[] #[.pointer (some p)])] Tryz.func128 Z Z Z Z<|Aj<|Aq 1 Z<|Ac<|Aj<|Aq 1 Z<|EJ (XE w H hH hU h2 h3 h) ?_;intro v w' ⟨hx,ho⟩;refine Aq 1 Z<|Ac<|Ay<|Um Z Z ⟨hx,_,Z,ho⟩
end
end Go.Proofs.YtekmbcbgknmhiaaGreatDoor
end
noncomputable section
namespace Go.Proofs.YtekmbcbgknmhiaaGreatDoor
open Go Go.E Go.RowKit Go.L
set_option maxHeartbeats 1000000
set_option maxRecDepth 10000
open _root_.Go.Proofs.Tryz
def Jh(a0:AcC):Option (AjM×(Int×Int)):=
 if 2048<(a0.length:Int) then Qq4 (DV (3:Int) (-1:Int)) (fun a=>some ([],(a.1,a.2))) else Qq4 (OV a0) (fun b=>some (b,(0,0)))
section
variable(w:World)(H:PH)(hH:Le H (hp w)) include hH
theorem Vw(hU:Ge H){a0:AcC}{b:Value}(e:AJ .byte H b a0){r:AjM×(Int×Int)}(h:Jh a0=some r):
  Qqv 79 [b] w (fun v w'=>∃ p,v=.tuple #[p,.agg #[No r.2.1,No r.2.2]]/\Ci 135 (.pair .st AjW) H w w' p (r.1)):=by
 refine Az 12 [(0,b)] func79 Z fun hL=>Bt 1 Z<|A9 AF.e Z hL fun w1 b1 a ab _=>Ac<|AB<|Bt 1 Z<|Ai (Bk e)<|A7 1 Z<|AO h ?_ ?_<;>intro q h
 ·refine Aj<|Aw h fun x4 s h=>AE a (D1 _ _ (An a) s) fun w5 ag t ac=>Aq 1 Z<|Af 0 Z t Z fun w6 m ad=>Ac<|Ay<|Ao ?_
  cases h
  refine Bu (.tmp Z) (.cell Z Aje Z AF.e (AH (i:=0) m Z)) ⟨m.ext,_,Z,Ci.nil⟩
 refine Av<|Ar<|Bt 1 Z<|Bh a (YU _ _ (An a) (e.mono  Ah)) ?_;intro u8 w8 u x f ae;have y:=u.mono (DS a x);refine Aw h fun x9 z h=>Bh f (Vv _ _ (An f) (hU.mono  Ah) y z) ?_;rintro aa ah ⟨_,rfl,g⟩ o j k;obtain⟨af,j,k,c⟩:=g.take hH f o;refine Ai (AT (fun _=>BM _))<|Aq 1 Z<|Af 1 Z j Z fun ai d l=>Ac<|Ay ?_
 cases h
 refine Bu (.tmp Z) (.cell Z Aje Z AF.e (AH (i:=1) d Z)) ?_;have c:=c.mono (Aa l);exact⟨d.ext,_,Z,(d.Ii hH (i:=0) Z c)⟩
def Kp(a0:AcC):Option Bool:=
 AN (a0.length<=9223372036854775807) (Qq4 (OV a0) (fun a=>if(a.length:Int)=1 then AN (0<=(0:Int)/\(0:Int)<(a.length:Int)) (some (decide ((a.getD ((0:Int).toNat) Qq2).1=a0))) else some false))
theorem Ug(hU:Ge H){a0:AcC}{r:Bool}(h:Kp a0=some r):
  Qqv 157 [AcB a0] w (fun v w'=>v=.bool r):=by
 refine Az 19 [(0,(AcB a0))] func157 Z fun hL=>AI 1 Z<|Bt 1 Z<|A1 h fun j h=>Ade (H:=H) hL j fun v1 w1 z c t k=>Bh c (YU _ _ (An c) k) ?_;intro u3 w3 l m d u;have o:=l.mono (DS c m);refine Aw h fun x4 p h=>Bh d (Vv _ _ (An d) (hU.mono  Ah) o p) ?_;rintro x w5 ⟨_,rfl,f⟩ q e y;have b:=f.Dn hH d q;refine A7 1 Z<|Bt 1 Z<|Ai (Bk b)<|Aq 2 Z<|CE 11 h ?_ ?_<;>intro a h
 ·refine Ab a<|Ai (Am Z)<|Ab a<|A1 h fun g h=>Be b ((0:Int).toNat) (G1 g) (AX g) ?_;rintro p8 _ ⟨_,_,rfl,rfl,⟨_,_,rfl,rfl,rfl⟩⟩ s;refine Ab a<|Ai (Ae Z Aj4 Z HC.e) ?_;have i:=s.add 0;refine Ab a<|Ai (Bl i (An e))<|Ab a<|Ai (Am Z)<|Ab a<|Ai (Ni Z Z)<|Ai (AK a Z)<|A7 1 Z<|Ay ?_
  cases h
  refine Al Z ⟨e.ext,Z⟩
 iterate 6 refine Au a ?_
 refine Ai (AS a Z)<|A7 1 Z<|Ay ?_
 cases h
 refine Al Z ⟨e.ext,Z⟩
def Hv(a0:AcC):Option ((Int×Int)):=
 if 64<(a0.length:Int) then Qq4 (DV (3:Int) (-1:Int)) (fun b=>some ((b.1,b.2))) else Qq4 (Kp a0) (fun c=>if !c then Qq4 (DV (6:Int) (-1:Int)) (fun a=>some ((a.1,a.2))) else some ((0,0)))
theorem JY(hU:Ge H){a0:AcC}{r:(Int×Int)}(h:Hv a0=some r):
  Qqv 102 [AcB a0] w (fun v w'=>v=.agg #[No r.1,No r.2]):=by
 refine Az 12 [(0,(AcB a0))] func102 Z fun hL=>Aj<|A9 AF.e Z hL fun w1 b1 a t _=>Ac<|AB<|Bt 1 Z<|Ai (IP Z)<|A7 1 Z<|AO h ?_ ?_<;>intro k h
 ·refine Aj<|Aw h fun x4 l h=>AE a (D1 _ _ (An a) l) fun w5 aa m u=>Af 0 Z m Z fun w6 e x=>Ac<|Ay<|Ao ?_
  cases h
  refine Dv (.cell Z Aje Z AF.e (AH (i:=0) e Z)) ⟨e.ext,Z⟩
 refine Av<|Ar<|AB<|Bt 1 Z<|Aw h fun x8 o h=>AE a (Ug _ _ (An a) (hU.mono  Ah) o) fun w9 ab b y=>A7 1 Z<|B3 h ?_ ?_<;>intro f h
 ·refine Aj<|Aw h fun ac g h=>AE b (D1 _ _ (An b) g) fun ad z j p=>Af 0 Z j Z fun ae c q=>Ac<|Ay<|Ao ?_
  cases h
  refine Dv (.cell Z Aje Z AF.e (AH (i:=0) c Z)) ⟨c.ext,Z⟩
 refine Av<|Ar<|Aj<|Ai (AT (fun _=>BM _))<|Af 0 Z b Z fun af d s=>Ac<|Ay ?_
 cases h
 refine Dv (.cell Z Aje Z AF.e (AH (i:=0) d Z)) ⟨d.ext,Z⟩
end
end Go.Proofs.YtekmbcbgknmhiaaGreatDoor
end
noncomputable section
namespace Go.Proofs.YtekmbcbgknmhiaaGreatDoor
open Go Go.E Go.RowKit Go.Shelf Go.Maps Go.Sort Go.WideElems Go.MapKept
abbrev rpH:Rp (Int×Int):=.pair (.int .i64) (.int .i64)
abbrev AiG(H:PH)(v:Value)(l:List (List UInt8×List (Int×Int))):Prop:=Wg encS (.vec rpH) H v l
def YV(H:PH)(v:Value)(l:List (List UInt8×List (Int×Int))):Prop:=∃ b u,v=.func (.func 184) #[] #[.pointer (some ⟨b,0,none⟩)]/\H b=some (.cells #[u] 130 (0,0))/\AiG H u l
theorem YV.mono{H H':PH}{v:Value}{l:List (List UInt8×List (Int×Int))}(h:YV H v l)(hs:Le H H'):YV H' v l:=by
 obtain⟨b,u,a,h2,h3⟩:=h;exact⟨b,u,a,hs _ _ h2,h3.mono hs⟩
section
variable(w:World)(H:PH)(hH:Le H (hp w)) include hH
theorem Agf{v:Value}{l:List (List UInt8×List (Int×Int))}(hm:AiG H v l):Ok Tryz.prog 131 [v] w (fun v' w'=>Ext w w'/\YV (un H (nw w w')) v' l):=by
 obtain⟨b,vs,rfl,h⟩:=id hm;have hc:CallsIn Fence.wide 5 Tryz.prog 131 #[.map (some b)] w fun e w'=>e=.returned (.func (.func 184) #[] #[.pointer (some ⟨w.heap.size,0,none⟩)])/\w'=w.alloc (.cells #[.map (some b)] 130):=AnyZ.keys_in Tryz.AgY Fence.wide 5 trivial Z (some b) w;refine⟨⟨Tryz.f131,_,Tryz.func131,Z,Z⟩,(callsIn_wide.1 hc).mono fun e w' he=>?_⟩;obtain⟨rfl,rfl⟩:=he;refine⟨_,Z,Du w _,w.heap.size,.map (some b),Z,?_,hm.mono (Ms hH)⟩;refine Ip _ _ ?_;unfold nw;rw [if_pos (Qzx _)];exact World.alloc_heap_new w _
end
theorem QV{κ:Type}{enc:κ->Value}:∀ (l:List κ) (vs:List Value) (i:Nat),l.length=vs.length->(mE enc i l vs).map (·.born)=List.range' i l.length
 | [],[],_,_=>rfl
 | a::l,u::vs,i,h=>by
  simp only [mE,Qze,List.length_cons,List.range'_succ];rw [QV l vs (i+1) (by simpa using h)]
theorem XF{κ:Type}{enc:κ->Value}:∀ (l:List κ) (vs:List Value) (i:Nat),l.length=vs.length->(mE enc i l vs).map (·.key)=l.map enc
 | [],[],_,_=>rfl
 | a::l,u::vs,i,h=>by
  simp only [mE,Qze];rw [XF l vs (i+1) (by simpa using h)]
def AdR:Value->Option (DataW Unit×List MemPlace):=fun _=>some (.nil,[])
theorem YW{P:Program}{k:TypeId}(hk:P.underlying k=some .string){s:List UInt8}(h:s.length<=maxLen):keyOf P k (encS s)=some (.string s):=by
 have:(ByteArray.mk s.toArray).size<=maxLen:=h;simp [keyOf,hk,mapKey,encS,this]
theorem Aho{P:Program}{k:TypeId}(hk:P.underlying k=some .string):∀ (l:List (List UInt8)) (vs:List Value) (i:Nat),l.length=vs.length->(∀ x∈l,x.length<=maxLen)->
  (mE encS i l vs).map (rg P k AdR)=l.map fun s=>(Lit.string s,(DataW.nil:DataW Unit))
 | [],[],_,_,_=>rfl
 | a::l,u::vs,i,h,hb=>by
  simp only [mE,Qze];rw [Aho hk l vs (i+1) (by simpa using h) (fun x hx=>hb x (.tail _ hx))]
  congr 1
  simp [WideElems.rg,WideElems.rd,YW hk (hb a (.head _)),AdR]
def S2{β:Type}(l:List (List UInt8×β)):Prop:=(l.map Qq5).Nodup/\(∀ x∈l.map Qq5,x.length<=maxLen)/\l.length * 16<=140737488355328
noncomputable instance {β:Type} (l:List (List UInt8×β)):Decidable (S2 l):=Classical.propDecidable _
def M5{β:Type}(l:List (List UInt8×β)):Option (List (List UInt8)):=Go.L.AN (S2 l) (some ((l.map Qq5).mergeSort leB))
theorem AiH(m:Nat):AnyZ.SortsIn Tryz.prog Tryz.TD Fence.wide m:=
 ⟨fun blk off cap ss W hH hblk hsz=>callsIn_wide.2 (Any.slices_Sort_string Tryz.AgW blk off cap ss W hH hblk hsz),
  fun p cap W=>callsIn_wide.2 (Any.slices_Sort_string_none Tryz.AgW p cap W)⟩
theorem WO(G:PH):∀ l:List (List UInt8),AG Rp.st G l (l.map Go.Proofs.encStr)
 | []=>.nil
 | _::l=>.cons (c:=[_]) Z (WO G l)
section
variable(w:World)(H:PH)(hH:Le H (hp w)) include hH
theorem AbZ{v:Value}{l:List (List UInt8×List (Int×Int))}(hi:YV H v l){r:List (List UInt8)}(h:M5 l=some r):
  Ok Tryz.prog 130 [v] w (fun v' w'=>Ext w w'/\∃ f,v'=f/\Ci 9 .st H w w' f r):=by
 obtain⟨⟨hnd,hlen,hby⟩,h⟩:=Go.L.G2 h;obtain rfl:=Option.some.inj h;obtain⟨bx,u,rfl,hbx,b,vs,rfl,hb,hl,_⟩:=hi;have hbx':w.heap[bx]? = _:=hH _ _ hbx;have hb':w.heap[b]? = _:=hH _ _ hb;have hlk:(l.map Qq5).length=vs.length:=by rw [Qzk];exact hl
 have hml:(mE encS 0 (l.map Qq5) vs).length=l.length:=by rw [Td _ _ _ hlk,Qzk]
 have hrg:=Aho (P:=Tryz.prog) Tryz.underlying9 (l.map Qq5) vs 0 hlk hlen
 have hown:w.ownsMap Tryz.prog 9 AdR b l.length (.map (((mE encS 0 (l.map Qq5) vs).map (rg Tryz.prog 9 AdR)).foldr DataW.insert [])):=by
  refine⟨_,_,hb',⟨?_,⟨?_,?_,?_⟩,?_⟩,?_,Z⟩
  ·rw [List.size_toArray,hml];unfold maxLen;omega
  ·intro x hx;have c:x.born∈(mE encS 0 (l.map Qq5) vs).map (·.born):=QkB (by simpa using hx);rw [QV _ _ _ hlk,List.mem_range'_1,Qzk] at c;omega
  ·rw [List.toList_toArray,QV _ _ _ hlk];exact List.nodup_range'
  ·rw [List.toList_toArray,XF _ _ _ hlk];exact List.pairwise_map.2 (hnd.imp fun {a b} hab he=>hab (by simpa [encS] using he))
  ·intro x hx;have hx':x∈mE encS 0 (l.map Qq5) vs:=by simpa using hx
   have c:x.key∈(mE encS 0 (l.map Qq5) vs).map (·.key):=QkB hx';rw [XF _ _ _ hlk] at c;obtain⟨s,hs,he⟩:=List.mem_map.1 c;exact⟨(.string s,.nil),by simp [WideElems.rd,<- he,YW Tryz.underlying9 (hlen s hs),AdR]⟩
  ·rw [List.size_toArray,hml];exact Qzx _
 rw [hrg] at hown
 have hq:∀ ks:List (List UInt8),(strKeys (.map ((ks.map fun s=>(Lit.string s,(DataW.nil:DataW Unit))).foldr DataW.insert []))).Perm ks:=fun ks=>by
  have c:=(WideShapes.sorted_perm (ks.map fun s=>(Lit.string s,(DataW.nil:DataW Unit)))).map (fun p=>strOf p.1);rw [Qx0] at c;have h2:((fun p:Lit×DataW Unit=>strOf p.1)∘fun s=>(Lit.string s,(DataW.nil:DataW Unit)))=id:=by funext s;rfl
  rw [h2,List.map_id] at c;exact c
 have hperm:=hq (l.map Qq5)
 have hsz:Go.Maps.size (.map (((l.map Qq5).map fun s=>(Lit.string s,(DataW.nil:DataW Unit))).foldr DataW.insert []))=l.length:=by
  have c:=(WideShapes.sorted_perm ((l.map Qq5).map fun s=>(Lit.string s,(DataW.nil:DataW Unit)))).length_eq;rw [Qzk,Qzk] at c;exact c
 have hseq:SeqGives Fence.wide 2 Tryz.prog 184 #[.pointer (some ⟨bx,0,none⟩)] Go.Proofs.encStr (fun ss=>ss.Perm (strKeys (.map (((l.map Qq5).map fun s=>(Lit.string s,(DataW.nil:DataW Unit))).foldr DataW.insert [])))) (Go.Maps.size (.map (((l.map Qq5).map fun s=>(Lit.string s,(DataW.nil:DataW Unit))).foldr DataW.insert []))) w:=
  AnyZ.keys_gives (ρ:=Tryz.W0) {Tryz.AgY with} Fence.wide _ trivial Z U bx b l.length _ _ (lt_of_heap hbx') (by simp [World.cell?,hbx']) hown
 have cS:=AnyZ.sorted_in Tryz.Afv Fence.wide 5 trivial trivial trivial trivial Z U (AiH _) (enters_of Tryz.func183 Qqb Z) 184 #[.pointer (some ⟨bx,0,none⟩)] trivial (enters_of Tryz.func184 Qqb Z) _ _ (by rw [hsz];unfold maxLen;omega) (by rw [hsz];exact hby) _ hseq
 change CallsIn _ _ Tryz.prog 130 _ _ _ at cS
 refine⟨⟨Tryz.f130,_,Tryz.func130,Z,Z⟩,(callsIn_wide.1 cS).mono fun e w' he=>?_⟩;obtain⟨v',ss,rfl,hS,hrow,_,hbel⟩:=he;refine⟨_,Z,Ext.off hbel,v',Z,_,?_,WO _ _⟩;have d:ss.mergeSort leB=(l.map Qq5).mergeSort leB:=mergeSort_of_perm (hS.trans hperm);have g:ss.length=((l.map Qq5).mergeSort leB).length:=by rw [<- d];simp
 rw [g] at hrow;rw [<- d];rw [<- d] at hrow;exact hrow
end
end Go.Proofs.YtekmbcbgknmhiaaGreatDoor
end
noncomputable section
namespace Go
abbrev AjS:=(Int×AjJ)×(Int×Int)
end Go
namespace Go.Proofs.YtekmbcbgknmhiaaGreatDoor
open Go Go.E Go.RowKit Go.L
set_option maxHeartbeats 1000000
set_option maxRecDepth 10000
open _root_.Go.Proofs.Tryz
def AZ(a0 a1:Int):Option Int:=
 Qq4 (GB a0) (fun a=>AN (Bz (a1+a)) (some ((a1+a))))
theorem Em{d w:World}{H:PH}(_hH:Le H (hp d))(O:List BS)(a0 a1:Int){ba1:Nat}(hL:Bb d (Ha [.box ba1 [No a1] 3] O) w){r:Int}(h:AZ a0 a1=some r):
  Ok prog 133 [No a0,Acy ba1] w (fun v w'=>v=.tuple #[]/\Bb d (Ha [.box ba1 [No r] 3] O) w'/\Le (fz w (Ha [.box ba1 [No a1] 3] O)) (fz w' (Ha [.box ba1 [No r] 3] O))):=by
 refine Dp (n:=7) [(0,No a0),(1,(Acy ba1))] func133 Z Z Z Z ?_;have hT:=Le.refl (fz w (Ha [.box ba1 [No a1] 3] O));refine Qk (Qqz 0 4 (.tail 4)) mixed Qqb (fun o b=>?_);have a:=hL.call b;have e:=AR hL b;refine CD Z (Ag 0 Z a Z) Z<|D0 1 Z<|Aw h fun p i h=>JI Z Z Z (fun s m=>Sw _ _ (Le.refl _) i)<|A1 h fun j h=>CD Z (A6 j) Z<|BU (fun t c=>?_);have k:=a.call c;have f:=AR a c;refine B8 0 Z Z k Z Z fun u l g=>AL ?_
 cases h
 refine L3 ?_;have hT:=hT.trans (e.trans (f.trans g));exact⟨Z,l,hT⟩
def Fv(a b:Int):Option ((Int×Int) ⊕ (Int)):=
 AN (Bz (a+1)) (some (Sum.inl (b,(a+1))))
def BQ(a0:Int×AjJ)(b:Int):Int×Int×Int×Int->Option ((Int×Int×Int×Int) ⊕ ((Int×Int) ⊕ (Int))):=fun⟨c,e,d,a⟩=>
 if a<(((a0.2.getD b.toNat Qq2).2).length:Int) then AN (0<=a/\a<(((a0.2.getD b.toNat Qq2).2).length:Int)) (if(((a0.2.getD b.toNat Qq2).2).getD a.toNat Qq2).1=c then Qq4 (AZ (1:Int) d) (fun f=>AN (Bz ((((a0.2.getD b.toNat Qq2).2).getD a.toNat Qq2).2 - e)) (Qq4 (AZ ((((a0.2.getD b.toNat Qq2).2).getD a.toNat Qq2).2 - e) f) (fun g=>AN (Bz (a+1)) (some (Sum.inl ((((a0.2.getD b.toNat Qq2).2).getD a.toNat Qq2).1,(((a0.2.getD b.toNat Qq2).2).getD a.toNat Qq2).2,g,(a+1))))))) else AN (Bz (1+(((a0.2.getD b.toNat Qq2).2).getD a.toNat Qq2).1)) (AN (Bz ((1+(((a0.2.getD b.toNat Qq2).2).getD a.toNat Qq2).1) - c)) (Qq4 (AZ ((1+(((a0.2.getD b.toNat Qq2).2).getD a.toNat Qq2).1) - c) d) (fun h=>AN (Bz ((((a0.2.getD b.toNat Qq2).2).getD a.toNat Qq2).2+1)) (Qq4 (AZ ((((a0.2.getD b.toNat Qq2).2).getD a.toNat Qq2).2+1) h) (fun i=>AN (Bz (a+1)) (some (Sum.inl ((((a0.2.getD b.toNat Qq2).2).getD a.toNat Qq2).1,(((a0.2.getD b.toNat Qq2).2).getD a.toNat Qq2).2,i,(a+1)))))))))) else Qq7 Sum.inr ((Fv b) d)
def Hk(a0:Int×AjJ)(a:Int)(s:Int×Int×Int×Int):Option ((Int×Int) ⊕ (Int)):=Go.L.run (BQ a0 a) s
def Fw(a0:Int×AjJ)(a b:Int):Option ((Int×Int) ⊕ (Int)):=
 Qq4 (AZ (((a0.2.getD a.toNat Qq2).2).length:Int) b) (fun c=>(Hk a0 a) (0,(-1),c,0))
def C0(a0:Int×AjJ)(b:Int):Int×Int->Option ((Int×Int) ⊕ ((Int×Int) ⊕ (Int))):=fun⟨c,a⟩=>
 if a<(((a0.2.getD b.toNat Qq2).1).length:Int) then AN (0<=a/\a<(((a0.2.getD b.toNat Qq2).1).length:Int)) (AN (Bz (((((a0.2.getD b.toNat Qq2).1).getD a.toNat Qq2).toNat:Int)+1)) (Qq4 (AZ (((((a0.2.getD b.toNat Qq2).1).getD a.toNat Qq2).toNat:Int)+1) c) (fun d=>AN (Bz (a+1)) (some (Sum.inl (d,(a+1))))))) else Qq7 Sum.inr ((Fw a0 b) c)
def Hl(a0:Int×AjJ)(a:Int)(s:Int×Int):Option ((Int×Int) ⊕ (Int)):=Go.L.run (C0 a0 a) s
def C1(a0:Int×AjJ):Int×Int->Option ((Int×Int) ⊕ (Int)):=fun⟨b,a⟩=>
 if a<(a0.2.length:Int) then AN (0<=a/\a<(a0.2.length:Int)) (Qq4 (AZ (((a0.2.getD a.toNat Qq2).1).length:Int) b) (fun c=>AN (((a0.2.getD a.toNat Qq2).1).length<=9223372036854775807) ((Hl a0 a) (c,0)))) else Qq7 Sum.inr (some b)
def Hm(a0:Int×AjJ)(s:Int×Int):Option Int:=Go.L.run (C1 a0) s
def FJ(a0:Int×AjJ)(a1_c0:Int):Option Int:=
 AN (Bz (a0.1+1)) (Qq4 (AZ (a0.1+1) a1_c0) (fun a=>AN (Bz ((a0.2.length:Int)+1)) (Qq4 (AZ ((a0.2.length:Int)+1) a) (fun b=>(Hm a0) (b,0)))))
theorem P4{k w:World}{H:PH}(hH:Le H (hp k)){O:List BS}{a0:Int×AjJ}{a1_c0:Int}{va0_1:Value}{ba1_c0:Nat}(hL:Bb k (Ha [.box ba1_c0 [No a1_c0] 3] O) w)(y:AJ (.pair .st (.vec AjW)) (gz H k w (Ha [.box ba1_c0 [No a1_c0] 3] O)) va0_1 (a0.2)){r:Int}(h:FJ a0 a1_c0=some r):
  Ok prog 132 [.agg #[No a0.1,va0_1],.func (.func 133) #[] #[Acy ba1_c0]] w (fun v w'=>v=.tuple #[]/\Bb k (Ha [.box ba1_c0 [No r] 3] O) w'/\Le (fz w (Ha [.box ba1_c0 [No a1_c0] 3] O)) (fz w' (Ha [.box ba1_c0 [No r] 3] O))):=by
 refine Dp (n:=91) [(0,.agg #[No a0.1,va0_1]),(1,.func (.func 133) #[] #[Acy ba1_c0])] func132 Z Z Z Z ?_;have hT:=Le.refl (fz w (Ha [.box ba1_c0 [No a1_c0] 3] O));refine Aj<|C9 (t:=46) Z Z hL fun w1 q b2 b3 _=>Ac<|Bt 1 Z<|Ai (Ae Z Aj1 Z CO.e)<|Ai (Ag 0 Z b2 Z)<|A1 h fun dm h=>Ai (A6 dm) ?_;have db:Bb k (Ha [.box ba1_c0 [No a1_c0] 3,.box q [No a0.1,va0_1] 46] O) w1:=b2.Cy [1] Z;have b4:=B0 [1] b2 db Z;refine Aw h fun x4 dn h=>Fb Z Z (Em hH (Ha [.box q [No a0.1,va0_1] 46] O) (a0.1+1) a1_c0 db dn) ?_;rintro _ w5 ⟨rfl,dc,b5⟩;refine Ac<|Bt 1 Z<|Ai (Ae Z Aj1 Z ZU.e)<|Ai (Ag 1 Z dc Z) ?_;have y:=y.mono (Aa (b3.trans (b4.trans b5)));refine Ai (Bk y)<|A1 h fun dp h=>Ai (A6 dp)<|Aw h fun x7 dq h=>Fb Z Z (Em hH (Ha [.box q [No a0.1,va0_1] 46] O) (((a0.2.length:Int)+1)) x4 dc dq) ?_;rintro _ w8 ⟨rfl,dd,b6⟩
 refine Ac<|Aj<|Ai (Ae Z Aj1 Z ZU.e)<|Ai (Ag 1 Z dd Z) ?_;have y:=y.mono (Aa b6);refine Ai (Bk y)<|A7 1 Z<|A3 ?_;obtain⟨be,h⟩:=Ba h;have hT:=hT.trans (b3.trans (b4.trans (b5.trans b6)));refine B5 (Int×Int×Nat) (fun⟨aa,a,n⟩=>[(1,.func (.func 133) #[] #[Acy ba1_c0]),(23,va0_1),(24,No (a0.2.length:Int)),(25,No a)]) (fun⟨aa,a,n⟩ wr=>FI k (Ha [.box ba1_c0 [No aa] 3,.box q [No a0.1,va0_1] 46] O) wr fun Oz=>AJ (.pair .st (.vec AjW)) (gz H k wr Oz) va0_1 (a0.2)/\Le (fz w (Ha [.box ba1_c0 [No a1_c0] 3] O)) (fz wr Oz)/\H8 (C1 a0) n (aa,a)=some r) (fun⟨aa,a,n⟩=>n) (x7,0,be) Z ⟨dd,y,hT,h⟩ ?_;rintro⟨aa,a,nn119⟩ dr ⟨a6,z,hT,h⟩;obtain⟨be,a7,rfl,h,bg⟩:=AY h;refine AI 1 Z<|AB<|AO h ?_ ?_<;>intro cb h
 ·refine Av<|Ar<|By Int (fun aj=>[(1,.func (.func 133) #[] #[Acy ba1_c0]),(23,va0_1),(24,No (a0.2.length:Int)),(25,No a)]) (fun aj wr=>FI k (Ha [.box ba1_c0 [No aj] 3,.box q [No a0.1,va0_1] 46] O) wr fun Oz=>AJ (.pair .st (.vec AjW)) (gz H k wr Oz) va0_1 (a0.2)/\Le (fz w (Ha [.box ba1_c0 [No a1_c0] 3] O)) (fz wr Oz)/\(Fv a) aj=some a7) ?_ ?_
  ·refine A3<|Aj<|A1 h fun bh h=>Be z a.toNat (G1 bh) (AX bh) ?_;rintro d0 _ ⟨_,_,rfl,rfl,⟨e228v1,rfl,e228h1⟩⟩ cc;refine Ai (Cj cc (An a6))<|A9 Ry.e Z a6 fun d1 c cd ac _=>Af 0 Z cd Z (a:=(Bn Z (Bn e228h1.one Ky))) fun de a8 ad=>Ac<|Bt 1 Z<|Ai (Ae Z Ajz Z HC.e)<|Ai (Ag 0 Z a8 Z)<|Ai (IP Z) ?_;have bi:Bb k (Ha [.box ba1_c0 [No aa] 3,.box c [.string ⟨((a0.2.getD a.toNat Qq2).1).toArray⟩,e228v1] 192,.box q [No a0.1,va0_1] 46] O) de:=a8.Cy [1] Z;have ae:=B0 [1] a8 bi Z;refine Aw h fun df ce h=>Fb Z Z (Em hH ((Ha [.box c [.string ⟨((a0.2.getD a.toNat Qq2).1).toArray⟩,e228v1] 192,.box q [No a0.1,va0_1] 46] O)) ((((a0.2.getD a.toNat Qq2).1).length:Int)) aa bi ce) ?_;rintro _ d2 ⟨rfl,bj,af⟩;refine Ac ?_
   refine By Int (fun ak=>[(1,.func (.func 133) #[] #[Acy ba1_c0]),(5,(Acy c)),(23,va0_1),(24,No (a0.2.length:Int)),(25,No a)]) (fun ak wr=>FI k (Ha [.box ba1_c0 [No ak] 3,.box c [.string ⟨((a0.2.getD a.toNat Qq2).1).toArray⟩,e228v1] 192,.box q [No a0.1,va0_1] 46] O) wr fun Oz=>AJ (.pair .st (.vec AjW)) (gz H k wr Oz) va0_1 (a0.2)/\AJ AjW (gz H k wr Oz) e228v1 ((a0.2.getD a.toNat Qq2).2)/\Le (fz w (Ha [.box ba1_c0 [No a1_c0] 3] O)) (fz wr Oz)/\(Fw a0 a) ak=some a7) ?_ ?_
   ·refine Aj<|Ai (Ae Z Ajz Z HC.e)<|Ai (Ag 1 Z bj Z)<|A1 h fun cf h=>Ade (H:=H) bj cf fun b7 d3 ds cg al bk=>Ai (Bk bk)<|A7 1 Z<|A3 ?_;obtain⟨bf,h⟩:=Ba h;have z:=z.mono (Aa (ac.trans (ad.trans (ae.trans (af.trans al)))));have e228h1:=e228h1.mono (Aa (ac.trans (ad.trans (ae.trans (af.trans al)))));have hT:=hT.trans (ac.trans (ad.trans (ae.trans (af.trans al))))
    refine B5 (Int×Int×Nat) (fun⟨ab,e,n⟩=>[(1,.func (.func 133) #[] #[Acy ba1_c0]),(5,(Acy c)),(23,va0_1),(24,No (a0.2.length:Int)),(25,No a),(36,b7),(37,No (((a0.2.getD a.toNat Qq2).1).length:Int)),(38,No e)]) (fun⟨ab,e,n⟩ wr=>FI k (Ha [.box ba1_c0 [No ab] 3,.box c [.string ⟨((a0.2.getD a.toNat Qq2).1).toArray⟩,e228v1] 192,.box q [No a0.1,va0_1] 46] O) wr fun Oz=>AJ (.pair .st (.vec AjW)) (gz H k wr Oz) va0_1 (a0.2)/\AJ .byte (gz H k wr Oz) b7 ((a0.2.getD a.toNat Qq2).1)/\AJ AjW (gz H k wr Oz) e228v1 ((a0.2.getD a.toNat Qq2).2)/\Le (fz w (Ha [.box ba1_c0 [No a1_c0] 3] O)) (fz wr Oz)/\H8 (C0 a0 a) n (ab,e)=some a7) (fun⟨ab,e,n⟩=>n) (df,0,bf) Z ⟨cg,z,bk,e228h1,hT,h⟩ ?_;rintro⟨ab,e,nn280⟩ dt ⟨ai,a3,a4,a5,hT,h⟩;obtain⟨bf,d4,rfl,h,bl⟩:=AY h;have l:=ai.rG H;refine AI 1 Z<|AB<|AO h ?_ ?_<;>intro ch h
    ·refine Av<|Ar<|AB<|A3<|Aj<|A1 h fun bm h=>Be (a4.mono l) e.toNat (G1 bm) (AX bm) ?_;rintro d5 _ rfl ci;refine Ai (Bl ci (An ai))<|A7 1 Z<|As<|Aq 2 Z<|Ai (KY (QR _))<|A1 h fun cj h=>Ai (A6 cj)<|Aw h fun dg ck h=>Fb Z Z (Em hH ((Ha [.box c [.string ⟨((a0.2.getD a.toNat Qq2).1).toArray⟩,e228v1] 192,.box q [No a0.1,va0_1] 46] O)) ((((((a0.2.getD a.toNat Qq2).1).getD e.toNat Qq2).toNat:Int)+1)) ab ai ck) ?_;rintro _ d6 ⟨rfl,cl,bd⟩;refine AL<|A2<|Ar<|As<|A1 h fun cm h=>Ai (A6 cm)<|Aq 1 Z<|AL ?_;have h:=Ce.again h bl;have l:=l.trans (Aa bd);have hT:=hT.trans bd;refine AM (_,_,_) Z ⟨cl,(a3.mono l),(a4.mono l),(a5.mono l),hT,h⟩
    refine B2<|AD<|A5 ?_;have h:=Ce.out h bl;refine Bf<|AA _ ⟨ai,(a3.mono l),(a5.mono l),hT,h⟩
   have hT:=hT.trans (ac.trans (ad.trans (ae.trans af)));rintro ak du ⟨bn,ag,s,hT,h⟩;refine Bt 1 Z<|Ai (Ae Z Ajz Z Ad9.e)<|Ai (Ag 1 Z bn Z)<|Ai (Bk s)<|Aw h fun dh cn h=>Fb Z Z (Em hH ((Ha [.box c [.string ⟨((a0.2.getD a.toNat Qq2).1).toArray⟩,e228v1] 192,.box q [No a0.1,va0_1] 46] O)) ((((a0.2.getD a.toNat Qq2).2).length:Int)) ak bn cn) ?_;rintro _ d7 ⟨rfl,co,am⟩;refine Ac<|Aj<|Ai (AT (fun _=>AdB _ _))<|A9 Hu.e Z co fun d8 o cp an _=>Af 0 Z cp Z fun d9 bo ao=>Ac<|Aj<|Ai (Ae Z Ajz Z Ad9.e)<|Ai (Ag 2 Z bo Z) ?_;have s:=s.mono (Aa (am.trans (an.trans ao)));refine Ai (Bk s)<|A7 1 Z<|A3 ?_;obtain⟨a9,h⟩:=Ba h;have ag:=ag.mono (Aa (am.trans (an.trans ao)));have hT:=hT.trans (am.trans (an.trans ao))
   refine B5 (Int×Int×Int×Int×Nat) (fun⟨g,j,p,b,n⟩=>[(1,.func (.func 133) #[] #[Acy ba1_c0]),(8,(Acy o)),(23,va0_1),(24,No (a0.2.length:Int)),(25,No a),(55,e228v1),(56,No (((a0.2.getD a.toNat Qq2).2).length:Int)),(57,No b)]) (fun⟨g,j,p,b,n⟩ wr=>FI k (Ha [.box o [No g,No j] 137,.box ba1_c0 [No p] 3,.box c [.string ⟨((a0.2.getD a.toNat Qq2).1).toArray⟩,e228v1] 192,.box q [No a0.1,va0_1] 46] O) wr fun Oz=>AJ (.pair .st (.vec AjW)) (gz H k wr Oz) va0_1 (a0.2)/\AJ AjW (gz H k wr Oz) e228v1 ((a0.2.getD a.toNat Qq2).2)/\Le (fz w (Ha [.box ba1_c0 [No a1_c0] 3] O)) (fz wr Oz)/\H8 (BQ a0 a) n (g,j,p,b)=some a7) (fun⟨g,j,p,b,n⟩=>n) (0,(-1),dh,0,a9) Z ⟨bo,ag,s,hT,h⟩ ?_;rintro⟨g,j,p,b,nn330⟩ dv ⟨ba,d,f,hT,h⟩;obtain⟨a9,ea,rfl,h,bb⟩:=AY h;refine AI 1 Z<|AB<|AO h ?_ ?_<;>intro cq h
   ·refine Av<|Ar<|AB<|A3<|Aj<|A1 h fun bp h=>Be f b.toNat (G1 bp) (AX bp) ?_;rintro eb _ ⟨_,_,rfl,rfl,rfl⟩ cr;refine Ai (Cj cr (An ba))<|A9 Hu.e Z ba fun ec ah cs u _=>Af 0 Z cs Z fun b8 m x=>Ac<|AB<|Aj<|Ai (Ae Z Ajp Z CO.e)<|Ai (Ag 0 Z m Z)<|Ai (Ae Z Ajp Z CO.e)<|Ai (Ag 1 Z m Z)<|A7 1 Z<|CN h ?_ ?_<;>intro ct h
    ·refine Bt 1 Z<|Ai (Ae Z Ajp Z CO.e)<|Ai (Ag 0 Z m Z)<|A1 h fun cu h=>Ai (A6 cu)<|Ai (Ae Z Ajp Z CO.e)<|Ai (Ag 1 Z m Z)<|A1 h fun cv h=>Ai (A6 cv) ?_;have bq:Bb k (Ha [.box ba1_c0 [No p] 3,.box ah [No ((((a0.2.getD a.toNat Qq2).2).getD b.toNat Qq2).1),No ((((a0.2.getD a.toNat Qq2).2).getD b.toNat Qq2).2)] 137,.box o [No g,No j] 137,.box c [.string ⟨((a0.2.getD a.toNat Qq2).1).toArray⟩,e228v1] 192,.box q [No a0.1,va0_1] 46] O) b8:=m.Cy [2] Z;have ap:=B0 [2] m bq Z;refine Aw h fun di cw h=>Fb Z Z (Em hH ((Ha [.box ah [No ((((a0.2.getD a.toNat Qq2).2).getD b.toNat Qq2).1),No ((((a0.2.getD a.toNat Qq2).2).getD b.toNat Qq2).2)] 137,.box o [No g,No j] 137,.box c [.string ⟨((a0.2.getD a.toNat Qq2).1).toArray⟩,e228v1] 192,.box q [No a0.1,va0_1] 46] O)) (((1+(((a0.2.getD a.toNat Qq2).2).getD b.toNat Qq2).1) - g)) p bq cw) ?_
     rintro _ ed ⟨rfl,br,aq⟩;refine Ac<|As<|Aq 1 Z<|Ai (Ae Z Ajp Z CO.e)<|Ai (Ag 1 Z br Z)<|A1 h fun cx h=>Ai (A6 cx)<|Aw h fun b9 cy h=>Fb Z Z (Em hH ((Ha [.box ah [No ((((a0.2.getD a.toNat Qq2).2).getD b.toNat Qq2).1),No ((((a0.2.getD a.toNat Qq2).2).getD b.toNat Qq2).2)] 137,.box o [No g,No j] 137,.box c [.string ⟨((a0.2.getD a.toNat Qq2).1).toArray⟩,e228v1] 192,.box q [No a0.1,va0_1] 46] O)) (((((a0.2.getD a.toNat Qq2).2).getD b.toNat Qq2).2+1)) di br cy) ?_;rintro _ ee ⟨rfl,bs,ar⟩;refine AL<|Ar<|As<|Ai (A4 1 Z Hu.e bs Z)<|Af 2 Z bs Z fun dj cz au=>AL<|A2<|Ar<|As<|A1 h fun c0 h=>Ai (A6 c0)<|Aq 1 Z<|AL ?_;have bt:=cz.AQ (i:=1) Z
     have bu:Bb k (Ha [.box o [No ((((a0.2.getD a.toNat Qq2).2).getD b.toNat Qq2).1),No ((((a0.2.getD a.toNat Qq2).2).getD b.toNat Qq2).2)] 137,.box ba1_c0 [No b9] 3,.box c [.string ⟨((a0.2.getD a.toNat Qq2).1).toArray⟩,e228v1] 192,.box q [No a0.1,va0_1] 46] O) dj:=bt.Cy [1] Z;have av:=B0 [1] bt bu Z;have h:=Ce.again h bb;have d:=d.mono (Aa (u.trans (x.trans (ap.trans (aq.trans (ar.trans (au.trans ((Ak (i:=1) Z).trans av))))))));have f:=f.mono (Aa (u.trans (x.trans (ap.trans (aq.trans (ar.trans (au.trans ((Ak (i:=1) Z).trans av))))))));have hT:=hT.trans (u.trans (x.trans (ap.trans (aq.trans (ar.trans (au.trans ((Ak (i:=1) Z).trans av)))))));refine AM (_,_,_,_,_) Z ⟨bu,d,f,hT,h⟩
    refine Bt 1 Z ?_;have bv:Bb k (Ha [.box ba1_c0 [No p] 3,.box ah [No ((((a0.2.getD a.toNat Qq2).2).getD b.toNat Qq2).1),No ((((a0.2.getD a.toNat Qq2).2).getD b.toNat Qq2).2)] 137,.box o [No g,No j] 137,.box c [.string ⟨((a0.2.getD a.toNat Qq2).1).toArray⟩,e228v1] 192,.box q [No a0.1,va0_1] 46] O) b8:=m.Cy [2] Z;have aw:=B0 [2] m bv Z;refine Aw h fun dk c1 h=>Fb Z Z (Em hH ((Ha [.box ah [No ((((a0.2.getD a.toNat Qq2).2).getD b.toNat Qq2).1),No ((((a0.2.getD a.toNat Qq2).2).getD b.toNat Qq2).2)] 137,.box o [No g,No j] 137,.box c [.string ⟨((a0.2.getD a.toNat Qq2).1).toArray⟩,e228v1] 192,.box q [No a0.1,va0_1] 46] O)) 1 p bv c1) ?_;rintro _ ef ⟨rfl,bc,ax⟩;refine Ac<|As<|Aq 1 Z<|Ai (Ae Z Ajp Z CO.e)<|Ai (Ag 1 Z bc Z)<|Ai (Ae Z Ajp Z CO.e)<|Ai (Ag 2 Z bc Z)<|A1 h fun c2 h=>Ai (A6 c2)<|Aw h fun ca c3 h=>?_
    refine Fb Z Z (Em hH ((Ha [.box ah [No ((((a0.2.getD a.toNat Qq2).2).getD b.toNat Qq2).1),No ((((a0.2.getD a.toNat Qq2).2).getD b.toNat Qq2).2)] 137,.box o [No g,No j] 137,.box c [.string ⟨((a0.2.getD a.toNat Qq2).1).toArray⟩,e228v1] 192,.box q [No a0.1,va0_1] 46] O)) (((((a0.2.getD a.toNat Qq2).2).getD b.toNat Qq2).2 - j)) dk bc c3) ?_;rintro _ eg ⟨rfl,bw,ay⟩;refine AL<|Ar<|As<|Ai (A4 1 Z Hu.e bw Z)<|Af 2 Z bw Z fun dl c4 az=>AL<|A2<|Ar<|As<|A1 h fun c5 h=>Ai (A6 c5)<|Aq 1 Z<|AL ?_;have bx:=c4.AQ (i:=1) Z;have bz:Bb k (Ha [.box o [No ((((a0.2.getD a.toNat Qq2).2).getD b.toNat Qq2).1),No ((((a0.2.getD a.toNat Qq2).2).getD b.toNat Qq2).2)] 137,.box ba1_c0 [No ca] 3,.box c [.string ⟨((a0.2.getD a.toNat Qq2).1).toArray⟩,e228v1] 192,.box q [No a0.1,va0_1] 46] O) dl:=bx.Cy [1] Z;have a2:=B0 [1] bx bz Z;have h:=Ce.again h bb
    have d:=d.mono (Aa (u.trans (x.trans (aw.trans (ax.trans (ay.trans (az.trans ((Ak (i:=1) Z).trans a2))))))));have f:=f.mono (Aa (u.trans (x.trans (aw.trans (ax.trans (ay.trans (az.trans ((Ak (i:=1) Z).trans a2))))))));have hT:=hT.trans (u.trans (x.trans (aw.trans (ax.trans (ay.trans (az.trans ((Ak (i:=1) Z).trans a2)))))));refine AM (_,_,_,_,_) Z ⟨bz,d,f,hT,h⟩
   refine B2<|AD<|A5 ?_;have h:=Ce.out h bb;refine Bf<|A2 ?_;have c6:=ba.AQ (i:=0) Z;have c7:=c6.AQ (i:=1) Z;have d:=d.mono (Aa ((Ak (i:=0) Z).trans (Ak (i:=1) Z)));have hT:=hT.trans ((Ak (i:=0) Z).trans (Ak (i:=1) Z));refine AA _ ⟨c7,d,hT,h⟩
  rintro aj dw ⟨c8,b0,hT,h⟩;refine As<|A1 h fun c9 h=>Ai (A6 c9)<|Aq 1 Z<|AL ?_;have h:=Ce.again h bg;refine AM (_,_,_) Z ⟨c8,b0,hT,h⟩
 refine B2<|AD<|A5 ?_;have h:=Ce.out h bg;refine Bf ?_
 cases h
 refine L3 ?_;have da:=a6.AQ (i:=1) Z;have hT:=hT.trans (Ak (i:=1) Z);exact⟨Z,da,hT⟩
def HI(a0:Int)(a:List (AcC×AjL)):Option AjS:=
 Qq4 (FJ (a0,a) (0:Int)) (fun c=>if 131072<c then Qq4 (DV (14:Int) (-1:Int)) (fun b=>some ((0,[]),(b.1,b.2))) else some ((a0,a),(0,0)))
def GS(a0:Int)(a1:List (AcC×AjL))(b:(List AcC)):AjJ×Int->Option ((AjJ×Int) ⊕ AjS):=fun⟨c,a⟩=>
 if a<(b.length:Int) then AN (0<=a/\a<(b.length:Int)) (AN (Go.E.H7 40 (c.length+([(b.getD a.toNat Qq2,(BT [] (b.getD a.toNat Qq2) a1))]).length)) (AN (Bz (a+1)) (some (Sum.inl ((c++[(b.getD a.toNat Qq2,(BT [] (b.getD a.toNat Qq2) a1))]),(a+1)))))) else Qq7 Sum.inr ((HI a0) c)
def LM(a0:Int)(a1:List (AcC×AjL))(a:(List AcC))(s:AjJ×Int):Option AjS:=Go.L.run (GS a0 a1 a) s
def Lu(a0:Int)(a1:List (AcC×AjL)):Option AjS:=
 Qq4 (M5 a1) (fun a=>(LM a0 a1 a) (([]:List (AcC×AjL)),0))
section
variable(w:World)(H:PH)(hH:Le H (hp w)) include hH
theorem Vx{a0:Int}{a1:List (AcC×AjL)}{x:Value}(ah:Wg encS (.vec AjW) H x a1){r:(Int×AjJ)×(Int×Int)}(h:Lu a0 a1=some r):
  Qqv 80 [No a0,x] w (fun v w'=>∃ u0,v=.tuple #[.agg #[No r.1.1,u0],.agg #[No r.2.1,No r.2.2]]/\AJ (.pair .st (.vec AjW)) (un H (nw w w')) u0 (r.1.2)):=by
 refine Az 40 [(0,No a0),(1,x)] func80 Z fun hL=>Aj<|A9 L7.e Z hL fun w1 b1 bt b6 _=>A9 AF.e Z bt fun w2 b2 bu b7 _=>Ac<|Bt 1 Z<|Ai (AT (fun _=>AfP _ _))<|A9 L7.e Z bu fun w3 b3 bv b8 _=>Af 0 Z bv Z fun w4 al b9=>Ac<|By (AjJ×Value×(List Value)) (fun⟨u,p,j⟩=>[(4,(Acy b1)),(5,(Acy b2)),(6,(Acy b3))]) (fun⟨u,p,j⟩ wr=>FI w [.row p 192 2 (u).length j,.box b3 [No a0,p] 46,.box b2 [No 0,No 0] 28,.box b1 [No 0,AaB] 46] wr fun Oz=>AG (.pair .st (.vec AjW)) (gz H w wr Oz) u j/\(HI a0) u=some r) ?_ ?_
 ·refine Bt 1 Z<|Bh al (Agf _ _ (An al) (ah.mono  Ah)) ?_;intro ce cf a3 a4 z bx;have a5:=a3.mono (DS al a4);refine Aw h fun c a6 h=>Bh z (AbZ _ _ (An z) a5 a6) ?_;rintro ae cg ⟨_,rfl,am⟩ a7 a8 bz;have d:=am.Dn hH z a7;refine Ai (Bk d)<|A7 1 Z<|A3 ?_;obtain⟨a9,au,ba⟩:=DG (.pair .st (.vec AjW)) H 192 a8;obtain⟨an,h⟩:=Ba h;have d:=d.mono (Aa au)
  refine B5 (AjJ×Int×Value×(List Value)×Nat) (fun⟨e,a,g,b,n⟩=>[(1,x),(4,(Acy b1)),(5,(Acy b2)),(6,(Acy b3)),(14,ae),(15,No (c.length:Int)),(16,No a)]) (fun⟨e,a,g,b,n⟩ wr=>FI w [.row g 192 2 (e).length b,.box b3 [No a0,g] 46,.box b2 [No 0,No 0] 28,.box b1 [No 0,AaB] 46] wr fun Oz=>AJ .st (gz H w wr Oz) ae c/\AG (.pair .st (.vec AjW)) (gz H w wr Oz) e b/\H8 (GS a0 a1 c) n (e,a)=some r) (fun⟨e,a,g,b,n⟩=>n) (([]:List (AcC×AjL)),0,AaB,[],an) Z ⟨a9,d,ba,h⟩ ?_;rintro⟨e,a,g,b,nn60⟩ ca ⟨q,f,o,h⟩;obtain⟨an,ch,rfl,h,ao⟩:=AY h;refine AI 1 Z<|AB<|AO h ?_ ?_<;>intro bb h
  ·refine Av<|Ar<|AB<|A3<|Aj<|A1 h fun ap h=>Be f a.toNat (G1 ap) (AX ap) ?_;rintro ci _ rfl bc;refine Ai (Bl bc (An q))<|A7 1 Z<|As<|Ai (Ae Z Aj1 Z ZU.e)<|Ai (Ag 1 Z q Z)<|Aq 3 Z<|AaY (k:=c.getD a.toNat Qq2) AhS zeroValue109 ah (hH.trans q.arg) fun cj aq=>Ai (AT (fun _=>ZX _ Z _ aq.one _))<|B6 ([(c.getD a.toNat Qq2,(BT [] (c.getD a.toNat Qq2) a1))]) (r:=(.pair .st (.vec AjW))) (fun _=>AfX _ _ _) q (.c2 ⟨_,_,Z,Z,⟨_,Z,(aq.mono  Ah)⟩⟩ .nil) fun ck cl cb bd af be=>A1 h fun bf h=>?_;have o:=o.mono (Aa af);refine Br (r:=(.pair .st (.vec AjW))) 0 e ([(c.getD a.toNat Qq2,(BT [] (c.getD a.toNat Qq2) a1))]) Z Aj0 bd Z o be bf fun bw cm bg ar av aa=>Ai (Ae Z Aj1 Z ZU.e) ?_
   refine B8 1 Z (row_one (ar.at (i:=0) Z)) ar Z Z fun cn bh ag=>AL<|A2<|Ar<|As<|A1 h fun bi h=>Ai (A6 bi)<|Aq 1 Z<|AL ?_;have h:=Ce.again h ao;have f:=f.mono (Aa (af.trans (av.trans ag)));have aa:=aa.mono (Aa ag);refine AM (_,_,_,_,_) Z ⟨bh,f,aa,h⟩
  refine B2<|AD<|A5 ?_;have h:=Ce.out h ao;refine Bf<|AA (_,_,_) ⟨q,o,h⟩
 rintro⟨u,p,j⟩ cc ⟨bj,y,h⟩;refine Aj<|A9 CO.e Z bj fun co cp bk aw _=>B8 0 Z Z bk Z Z fun cq ab ax=>Ac<|Aj<|Ai (A4 2 Z L7.e ab Z)<|Aq 1 Z ?_;have y:=y.mono (Aa (aw.trans ax));have s:=ab.Dn hH (i:=1) Z y;have bl:=ab.AQ (i:=1) Z;refine Aw h fun cr bm h=>EJ (P4 (a0:=(a0,u)) (a1_c0:=0) (O:=[.box b3 [No a0,p] 46,.box b2 [No 0,No 0] 28,.box b1 [No 0,AaB] 46]) hH bl s bm) ?_;rintro _ cs ⟨rfl,t,ay⟩;refine Ac<|AB<|Aj<|Ai (Ag 0 Z t Z)<|A7 1 Z<|AO h ?_ ?_<;>intro bn h
 ·refine Aj<|Ai (AT (fun _=>X7 _))<|Aw h fun ct bo h=>AE t (D1 _ _ (An t) bo) fun cu cd bp b0=>Af 3 Z bp Z fun cv bq b4=>Af 2 Z bq Z fun cw ac b5=>Ac<|Ay<|Ao ?_
  cases h
  refine Bu (.cell Z Aj1 Z L7.e (AH (i:=3) ac Z)) (.cell Z Aje Z AF.e (AH (i:=2) ac Z)) ⟨ac.ext,_,Z,(AJ.nil _ _)⟩
 refine Av<|Ar<|Aj<|Ai (A4 1 Z L7.e t Z)<|Ai (AT (fun _=>BM _))<|Af 3 Z t Z (a:=(Bn Z (Bn s.one Ky))) fun cx br az=>Af 2 Z br Z fun cy ad a2=>Ac<|Ay ?_
 cases h
 refine Bu (.cell Z Aj1 Z L7.e (AH (i:=3) ad Z)) (.cell Z Aje Z AF.e (AH (i:=2) ad Z)) ?_;have s:=s.mono (Aa (ay.trans (az.trans a2)));exact⟨ad.ext,_,Z,(s.mono  E7)⟩
def JZ(a:Int)(b:List (AcC×AjL)):Option ((AjJ×Int) ⊕ AjS):=
 AN (Bz (a+1)) (some (Sum.inl (b,(a+1))))
def GU(c:Int)(b:AjM×(Int×Int)):AjJ×Int->Option ((AjJ×Int) ⊕ ((AjJ×Int) ⊕ AjS)):=fun⟨d,a⟩=>
 if a<(b.1.length:Int) then AN (0<=a/\a<(b.1.length:Int)) (AN (Go.E.H7 16 ((BT [] ((b.1.getD a.toNat Qq2).1) d).length+1)) (AN (Bz (a+1)) (some (Sum.inl ((FT ((b.1.getD a.toNat Qq2).1) ((BT [] ((b.1.getD a.toNat Qq2).1) d)++[(c,a)]) d),(a+1)))))) else Qq7 Sum.inr ((JZ c) d)
def Ka(a:Int)(b:AjM×(Int×Int))(s:AjJ×Int):Option ((AjJ×Int) ⊕ AjS):=Go.L.run (GU a b) s
def HJ(a0:List AcC)(b:List (AcC×AjL)):Option AjS:=
 Qq4 (Lu (a0.length:Int) b) (fun a=>some ((a.1.1,a.1.2),(a.2.1,a.2.2)))
def EH(a0:List AcC):AjJ×Int->Option ((AjJ×Int) ⊕ AjS):=fun⟨c,a⟩=>
 if a<(a0.length:Int) then AN (0<=a/\a<(a0.length:Int)) (Qq4 (Jh (a0.getD a.toNat Qq2)) (fun b=>if b.2.1=0/\b.2.2=0 then(Ka a b) (c,0) else Qq4 (DV b.2.1 a) (fun d=>Qq7 Sum.inr (some ((0,[]),(d.1,d.2)))))) else Qq7 Sum.inr ((HJ a0) c)
def NN(a0:List AcC)(s:AjJ×Int):Option AjS:=Go.L.run (EH a0) s
def Ji(a0:List AcC):Option AjS:=
 if 64<(a0.length:Int) then Qq4 (DV (2:Int) (-1:Int)) (fun a=>some ((0,[]),(a.1,a.2))) else(NN a0) (([]:List (AcC×AjL)),0)
theorem Vy(hU:Ge H){a0:List AcC}{m:Value}(ah:AJ (.vec .byte) H m a0){r:(Int×AjJ)×(Int×Int)}(h:Ji a0=some r):
  Qqv 47 [m] w (fun v w'=>∃ u0,v=.tuple #[.agg #[No r.1.1,u0],.agg #[No r.2.1,No r.2.2]]/\AJ (.pair .st (.vec AjW)) (un H (nw w w')) u0 (r.1.2)):=by
 refine Az 64 [(0,m)] func47 Z fun hL=>Aj<|A9 L7.e Z hL fun w1 b1 cg cz _=>A9 AF.e Z cg fun w2 b2 a2 c0 _=>Ac<|AB<|Bt 1 Z<|Ai (Bk ah)<|A7 1 Z<|AO h ?_ ?_<;>intro ch h
 ·refine Aj<|Ai (AT (fun _=>X7 _))<|Aw h fun x5 ci h=>AE a2 (D1 _ _ (An a2) ci) fun w6 dt cj c1=>Af 1 Z cj Z fun w7 ck c3=>Af 0 Z ck Z fun w8 a3 c4=>Ac<|Ay<|Ao ?_
  cases h
  refine Bu (.cell Z Aj1 Z L7.e (AH (i:=1) a3 Z)) (.cell Z Aje Z AF.e (AH (i:=0) a3 Z)) ⟨a3.ext,_,Z,(AJ.nil _ _)⟩
 refine Av<|Ar<|Aj<|WC encS AjL a2 fun du o ce cs=>A7 1 Z<|By (AjJ×(List Value)) (fun⟨t,vsl142⟩=>[(0,m),(2,(Acy b1)),(3,(Acy b2)),(4,.map (some o))]) (fun⟨t,vsl142⟩ wr=>FI w (Ha [Rx encS o t vsl142,.box b2 [No 0,No 0] 28,.box b1 [No 0,AaB] 46] (mT AbQ 137 2 t vsl142)) wr fun Oz=>(t).length=(vsl142).length/\(HJ a0) t=some r) ?_ ?_
 ·refine Bt 1 Z<|Ai (Bk ah)<|A7 1 Z<|A3 ?_;obtain⟨aq,h⟩:=Ba h;refine B5 (AjJ×Int×(List Value)×Nat) (fun⟨p,c,vsl209,n⟩=>[(0,m),(2,(Acy b1)),(3,(Acy b2)),(4,.map (some o)),(17,m),(18,No (a0.length:Int)),(19,No c)]) (fun⟨p,c,vsl209,n⟩ wr=>FI w (Ha [Rx encS o p vsl209,.box b2 [No 0,No 0] 28,.box b1 [No 0,AaB] 46] (mT AbQ 137 2 p vsl209)) wr fun Oz=>(p).length=(vsl209).length/\H8 (EH a0) n (p,c)=some r) (fun⟨p,c,vsl209,n⟩=>n) (([]:List (AcC×AjL)),0,([]:List Value),aq) Z ⟨ce,Z,h⟩ ?_;rintro⟨p,c,vsl209,nn211⟩ ct ⟨ab,ao,h⟩;obtain⟨aq,a4,rfl,h,ai⟩:=AY h;refine AI 1 Z<|AB<|AO h ?_ ?_<;>intro bi h
  ·refine Av<|Ar<|By (AjJ×(List Value)) (fun⟨aa,vsl273⟩=>[(0,m),(2,(Acy b1)),(3,(Acy b2)),(4,.map (some o)),(17,m),(18,No (a0.length:Int)),(19,No c)]) (fun⟨aa,vsl273⟩ wr=>FI w (Ha [Rx encS o aa vsl273,.box b2 [No 0,No 0] 28,.box b1 [No 0,AaB] 46] (mT AbQ 137 2 aa vsl273)) wr fun Oz=>(aa).length=(vsl273).length/\(JZ c) aa=some a4) ?_ ?_
   ·refine A3<|Bt 1 Z<|A1 h fun au h=>Be ah c.toNat (G1 au) (AX au) ?_;rintro c5 _ ⟨e276v0,rfl,e276h0⟩ bj;refine Ai (Bl bj (hH.trans ab.arg))<|A7 2 Z<|Bt 1 Z<|Aw h fun b bk h=>Bh ab (Vw _ _ (An ab) (hU.mono  Ah) (e276h0.mono  Ah) bk) ?_;rintro _ c6 ⟨ap,rfl,az⟩ bl bm cl;have u:=az.Dn hH ab bl;refine Aq 3 Z<|A9 AF.e Z bm fun c7 af bn a5 _=>Aq 1 Z<|Af 0 Z bn Z fun c8 ac a6=>Ac<|AB<|Aj<|Ai (A4 0 Z AF.e ac Z)<|Ai (AT (fun _=>BM _))<|Ai (JJ Jg (MR _ _ _ _))<|Ac<|CN h ?_ ?_<;>intro bo h
    ·refine Aj<|Ai (AT (fun _=>X7 _))<|Ai (Ae Z Aje Z CO.e)<|Ai (Ag 0 Z ac Z)<|Aq 1 Z<|Aw h fun c9 bp h=>AE ac (D1 _ _ (An ac) bp) fun da cu bq cm=>Af 3 Z bq Z fun db br cn=>Af 2 Z br Z fun dc aj co=>Ac<|Ay<|Ao<|Ax<|BI<|BN ?_;have h:=Ce.out h ai;refine Ax<|BI ?_
     cases h
     refine Bu (.cell Z Aj1 Z L7.e (AH (i:=3) aj Z)) (.cell Z Aje Z AF.e (AH (i:=2) aj Z)) ⟨aj.ext,_,Z,(AJ.nil _ _)⟩
    refine Av<|Ar<|Bt 1 Z ?_;have u:=u.mono (Aa (a5.trans a6));refine Ai (Bk u)<|A7 1 Z<|A3 ?_;obtain⟨ar,h⟩:=Ba h;refine B5 (AjJ×Int×(List Value)×Nat) (fun⟨d,a,vsl310,n⟩=>[(0,m),(2,(Acy b1)),(3,(Acy b2)),(4,.map (some o)),(5,No c),(17,m),(18,No (a0.length:Int)),(19,No c),(37,ap),(38,No (b.1.length:Int)),(39,No a)]) (fun⟨d,a,vsl310,n⟩ wr=>FI w (Ha [.box af [No b.2.1,No b.2.2] 28,Rx encS o d vsl310,.box b2 [No 0,No 0] 28,.box b1 [No 0,AaB] 46] (mT AbQ 137 2 d vsl310)) wr fun Oz=>AJ (.pair .st AjW) (gz H w wr Oz) ap (b.1)/\(d).length=(vsl310).length/\H8 (GU c b) n (d,a)=some a4) (fun⟨d,a,vsl310,n⟩=>n) (p,0,vsl209,ar) Z ⟨ac,u,ao,h⟩ ?_;rintro⟨d,a,vsl310,nn312⟩ cv ⟨ak,x,ag,h⟩;obtain⟨ar,dd,rfl,h,av⟩:=AY h;refine AI 1 Z<|AB<|AO h ?_ ?_<;>intro bs h
    ·refine Av<|Ar<|AB<|A3<|Bt 1 Z<|A1 h fun aw h=>Be x a.toNat (G1 aw) (AX aw) ?_;rintro de _ ⟨_,_,rfl,rfl,⟨_,_,rfl,rfl,rfl⟩⟩ bt;refine Ai (Cj bt (An ak))<|A9 OO.e Z ak fun df al bu a7 _=>Aq 1 Z<|Af 0 Z bu Z fun dg ax a8=>Ac ?_
     refine Kk (Jw (UQ (Se (Jw (Jw (O0 (Se (Jw (O0 Nq))))))))) (fun z0 z=>Le (gz H w z0 (Ha [.box al [.string ⟨((b.1.getD a.toNat Qq2).1).toArray⟩,No ((b.1.getD a.toNat Qq2).2.1),No ((b.1.getD a.toNat Qq2).2.2)] 135,.box af [No b.2.1,No b.2.2] 28,Rx encS o d vsl310,.box b2 [No 0,No 0] 28,.box b1 [No 0,AaB] 46] (mT AbQ 137 2 d vsl310))) (hp z)/\z.heap[al]? = some (.cells [.string ⟨((b.1.getD a.toNat Qq2).1).toArray⟩,No ((b.1.getD a.toNat Qq2).2.1),No ((b.1.getD a.toNat Qq2).2.2)].toArray 135 (0,0))/\z.heap[af]? = some (.cells [No b.2.1,No b.2.2].toArray 28 (0,0))/\z.heap[b2]? = some (.cells [No 0,No 0].toArray 28 (0,0))/\z.heap[b1]? = some (.cells [No 0,AaB].toArray 46 (0,0))/\z.heap[o]? = some (.map (mE encS 0 ((d).map Qq5) vsl310).toArray (d).length)) mixed Z (fun f di ay=>?_);have j:=ax.call ay;have a9:=AR ax ay;have g:=j.rG H;refine Nt ⟨g.trans (An j),j.at (i:=0) Z,j.at (i:=1) Z,j.at (i:=3) Z,j.at (i:=4) Z,j.at (i:=2) Z⟩ fun kI323=>?_
     refine A8 0 f kI323 Z (fun _ _=>Am Z) Z<|A8 1 f kI323 Z (fun _ _=>Ae Z Aj4 Z HC.e) Z<|A8 2 f kI323 Z (fun _ hI=>KC Z hI.2.1 Z) Z<|A8 3 f kI323 Z (fun _ _=>Am Z) Z<|A8 4 f kI323 Z (fun _ _=>Ae Z Aj4 Z HC.e) Z<|A8 5 f kI323 Z (fun _ hI=>KC Z hI.2.1 Z) Z<|A8 6 f kI323 Z (fun _ hI=>AfL (k:=(b.1.getD a.toNat Qq2).1) (enc:=encS) Z AhS zeroValue109 hI.2.2.2.2.2 (by rw [Qzk];exact ag)) Z<|A8 7 f kI323 Z (fun _ _=>Am Z) Z<|A8 8 f kI323 Z (fun _ _=>Am Z) Z<|A8 9 f kI323 Z (fun _ _=>AT (fun _=>Vj _ _ _)) Z<|FR 10 Z<|B6 [(c,a)] (r:=AjW) (fun _=>YM _ _ _) j (.c2 ⟨_,_,Z,Z,Z⟩ .nil) ?_;intro dj dk cw q ba bv;have g:=g.trans (Aa ba)
     refine AW ⟨g.trans (An q),q.at (i:=0) Z,q.at (i:=1) Z,q.at (i:=3) Z,q.at (i:=4) Z,q.at (i:=2) Z⟩ fun kI325=>FR 11 Z<|A1 h fun bw h=>Ads (A:=[.box al [.string ⟨((b.1.getD a.toNat Qq2).1).toArray⟩,No ((b.1.getD a.toNat Qq2).2.1),No ((b.1.getD a.toNat Qq2).2.2)] 135,.box af [No b.2.1,No b.2.2] 28,Rx encS o d vsl310,.box b2 [No 0,No 0] 28,.box b1 [No 0,AaB] 46]) (l:=d) (vs:=vsl310) (k:=(b.1.getD a.toNat Qq2).1) (z:=(c,a)) (r:=AjW) (H:=H) Adt Z Ajn Qqc hH q ag bv bw ?_;intro dl dm T327 bb s bc;have g:=g.trans (Aa bc);refine AW ⟨g.trans (An s),s.at (i:=0) Z,s.at (i:=1) Z,s.at (i:=3) Z,s.at (i:=4) Z,s.at (i:=2) Z⟩ fun kI329=>FR 12 Z ?_
     refine AhK (A:=[.box al [.string ⟨((b.1.getD a.toNat Qq2).1).toArray⟩,No ((b.1.getD a.toNat Qq2).2.1),No ((b.1.getD a.toNat Qq2).2.2)] 135,.box af [No b.2.1,No b.2.2] 28,Rx encS o d vsl310,.box b2 [No 0,No 0] 28,.box b1 [No 0,AaB] 46]) (T:=T327) 2 bb Z AhS s Z fun bx dn bz b0 bd=>GG<|EK<|A2<|Ar<|As<|A1 h fun b3 h=>Ai (A6 b3)<|Aq 1 Z<|AL ?_;have b4:=b0.AQ (i:=0) Z;have h:=Ce.again h av;have x:=x.mono (Aa (a7.trans (a8.trans a9)));have g:=g.trans (Aa (bd.trans (Ak (i:=0) Z)));refine AM (_,_,_,_) Z ⟨b4,(x.mono g),bz,h⟩
    refine B2<|AD<|A5 ?_;have h:=Ce.out h av;refine Bf<|A2 ?_;have b5:=ak.AQ (i:=0) Z;refine AA (_,_) ⟨b5,ag,h⟩
   rintro⟨aa,vsl273⟩ cx ⟨b6,be,h⟩;refine As<|A1 h fun b7 h=>Ai (A6 b7)<|Aq 1 Z<|AL ?_;have h:=Ce.again h ai;refine AM (_,_,_,_) Z ⟨b6,be,h⟩
  refine B2<|AD<|A5 ?_;have h:=Ce.out h ai;refine Bf<|AA (_,_) ⟨ab,ao,h⟩
 rintro⟨t,vsl142⟩ cy ⟨b8,bf,h⟩;refine Bt 1 Z<|Ai (Bk ah)<|Aq 1 Z ?_;obtain⟨am,cp,b9⟩:=AaX (A:=[Rx encS o t vsl142,.box b2 [No 0,No 0] 28,.box b1 [No 0,AaB] 46]) (l:=t) (vs:=vsl142) (e:=137) (r:=AjW) 0 Z Adt hH bf b8 Z;refine Aw h fun dp ca h=>Bh am (Vx _ _ (An am) b9 ca) ?_;rintro _ dq ⟨cq,rfl,a1⟩ cb cc cr;have y:=a1.mono (DS am cb);refine Aq 2 Z<|Af 1 Z cc Z (a:=(Bn Z (Bn y.one Ky))) fun dr cd bg=>Af 0 Z cd Z fun ds an bh=>Ac<|Ay ?_
 cases h
 refine Bu (.cell Z Aj1 Z L7.e (AH (i:=1) an Z)) (.cell Z Aje Z AF.e (AH (i:=0) an Z)) ?_;have y:=y.mono (Aa (bg.trans bh));exact⟨an.ext,_,Z,(y.mono  E7)⟩
end
end Go.Proofs.YtekmbcbgknmhiaaGreatDoor
end
noncomputable section
namespace Go.Proofs.YtekmbcbgknmhiaaGreatDoor
open Go Go.E Go.RowKit Go.L
set_option maxHeartbeats 1000000
set_option maxRecDepth 10000
open _root_.Go.Proofs.Tryz
def Gp(a0:Int×AjJ)(a1:AcC):Option (AjL×(Int×Int)):=
 Qq4 (Hv a1) (fun a=>if a.1=0/\a.2=0 then Qq4 (D9 (a0.1,a0.2) a1) (fun b=>Qq4 (D3 b) (fun c=>some (c,(0,0)))) else some ([],(a.1,a.2)))
section
variable(w:World)(H:PH)(hH:Le H (hp w)) include hH
theorem Nl(hU:Ge H){a0:Int×AjJ}{a1:AcC}{b:Value}(u:AJ (.pair .st (.vec AjW)) H b (a0.2)){r:AjL×(Int×Int)}(h:Gp a0 a1=some r):
  Qqv 144 [.agg #[No a0.1,b],AcB a1] w (fun v w'=>∃ u0,v=.tuple #[u0,.agg #[No r.2.1,No r.2.2]]/\Ci 137 AjW H w w' u0 (r.1)):=by
 refine Az 18 [(0,.agg #[No a0.1,b]),(1,(AcB a1))] func144 Z fun hL=>Aj<|C9 (t:=46) Z Z hL fun w1 b1 ae ao _=>Aq 1 Z<|A9 AF.e Z ae fun w2 b2 s ap _=>Ac<|AB<|Bt 1 Z<|Aw h fun x3 af h=>AE s (JY _ _ (An s) (hU.mono  Ah) af) fun w4 aw ag aq=>A9 AF.e Z ag fun w5 b5 ah ar _=>Af 0 Z ah Z fun w6 a au=>Ac<|Aj<|Ai (A4 0 Z AF.e a Z)<|Ai (AT (fun _=>BM _))<|Ai (JJ Jg (MR _ _ _ _))<|Ac<|CN h ?_ ?_<;>intro ai h
 ·refine Eu (.q 0 (.q 1 (.tail 2))) mixed Qqb (fun w9 aj=>?_);have f:=a.call aj;refine CD Z (A4 0 Z AF.e f Z) Z<|D0 1 Z<|BU (fun ax x=>?_);have y:=f.call x;refine Af 1 Z y Z fun ay g ak=>Ac<|Ay<|Ao ?_
  cases h
  refine Bu (.tmp Z) (.cell Z Aje Z AF.e (AH (i:=1) g Z)) ⟨g.ext,_,Z,Ci.nil⟩
 refine Av<|Ar<|Aj<|Ai (A4 2 Z L7.e a Z)<|Aq 1 Z<|Aw h fun az z h=>Bh a (GZ (a0:=(a0.1,a0.2)) _ _ (An a) (u.mono  Ah) z) ?_;rintro al a2 ⟨_,rfl,j⟩ aa c am;have k:=j.mono (DS a aa);refine Aw h fun a3 ab h=>Bh c (Ml _ _ (An c) k ab) ?_;rintro an a4 ⟨_,rfl,l⟩ ac m o;obtain⟨av,m,o,d⟩:=l.take hH c ac;refine Ai (AT (fun _=>BM _))<|Aq 1 Z<|Af 2 Z m Z fun a5 e p=>Ac<|Ay ?_
 cases h
 refine Bu (.tmp Z) (.cell Z Aje Z AF.e (AH (i:=2) e Z)) ?_;have d:=d.mono (Aa p);exact⟨e.ext,_,Z,(e.Ii hH (i:=0) Z d)⟩
def FV(a:List (Int×Int)):Option (AjL×(Int×Int)):=
 some (a,(0,0))
def CV(a:Int)(b:List (Int×Int)):Option ((AjL×Int) ⊕ (AjL×(Int×Int))):=
 AN (Bz (a+1)) (some (Sum.inl (b,(a+1))))
def E2(c:List (Int×Int))(a:Int)(b:AjL):Option ((AjL×Int) ⊕ (AjL×(Int×Int))):=
 AN (Go.E.H7 16 (c.length+([((b.getD a.toNat Qq2).1,(b.getD a.toNat Qq2).2)]).length)) ((CV a) (c++[((b.getD a.toNat Qq2).1,(b.getD a.toNat Qq2).2)]))
def Ck(a0:Int×AjJ)(a1:List AcC)(d:List (Int×Int))(b:Int)(c:AjL):Int->Option ((Int) ⊕ ((AjL×Int) ⊕ (AjL×(Int×Int)))):=fun a=>
 if a<(a1.length:Int) then AN (0<=a/\a<(a1.length:Int)) (AN (Bz ((c.getD b.toNat Qq2).2+a)) (Qq4 (D9 (a0.1,a0.2) (a1.getD a.toNat Qq2)) (fun e=>Qq4 (Cg e ((c.getD b.toNat Qq2).1,((c.getD b.toNat Qq2).2+a))) (fun f=>if !f then Qq7 Sum.inr ((CV b) d) else AN (Bz (a+1)) (some (Sum.inl (a+1))))))) else Qq7 Sum.inr ((E2 d b c))
def HU(a0:Int×AjJ)(a1:List AcC)(b:List (Int×Int))(a:Int)(c:AjL)(s:Int):Option ((AjL×Int) ⊕ (AjL×(Int×Int))):=Go.L.run (Ck a0 a1 b a c) s
def CK(a0:Int×AjJ)(a1:List AcC)(b:AjL):AjL×Int->Option ((AjL×Int) ⊕ (AjL×(Int×Int))):=fun⟨c,a⟩=>
 if a<(b.length:Int) then AN (0<=a/\a<(b.length:Int)) ((HU a0 a1 c a b) (0:Int)) else Qq7 Sum.inr (FV c)
def HV(a0:Int×AjJ)(a1:List AcC)(a:AjL)(s:AjL×Int):Option (AjL×(Int×Int)):=Go.L.run (CK a0 a1 a) s
def FW(a0:Int×AjJ)(a1:List AcC):Option (AjL×(Int×Int)):=
 AN (0<=(0:Int)/\(0:Int)<(a1.length:Int)) (Qq4 (D9 (a0.1,a0.2) (a1.getD ((0:Int).toNat) Qq2)) (fun a=>(HV a0 a1 a) (([]:List (Int×Int)),0)))
def CL(a0:Int×AjJ)(a1:List AcC):Int->Option ((Int) ⊕ (AjL×(Int×Int))):=fun a=>
 if a<(a1.length:Int) then AN (0<=a/\a<(a1.length:Int)) (Qq4 (Hv (a1.getD a.toNat Qq2)) (fun b=>if b.1=0/\b.2=0 then AN (Bz (a+1)) (some (Sum.inl (a+1))) else Qq4 (DV b.1 a) (fun c=>Qq7 Sum.inr (some ([],(c.1,c.2)))))) else Qq7 Sum.inr ((FW a0 a1))
def HW(a0:Int×AjJ)(a1:List AcC)(s:Int):Option (AjL×(Int×Int)):=Go.L.run (CL a0 a1) s
def Ee(a0:Int×AjJ)(a1:List AcC):Option (AjL×(Int×Int)):=
 if(a1.length:Int)=0 then Qq4 (DV (10:Int) (-1:Int)) (fun b=>some ([],(b.1,b.2))) else(if 16<(a1.length:Int) then Qq4 (DV (2:Int) (-1:Int)) (fun a=>some ([],(a.1,a.2))) else(HW a0 a1) (0:Int))
theorem PW(hU:Ge H){a0:Int×AjJ}{a1:List AcC}{s o:Value}(bx:AJ (.pair .st (.vec AjW)) H s (a0.2))(aa:AJ .st H o a1){r:AjL×(Int×Int)}(h:Ee a0 a1=some r):
  Qqv 146 [.agg #[No a0.1,s],o] w (fun v w'=>∃ u0,v=.tuple #[u0,.agg #[No r.2.1,No r.2.2]]/\Ci 137 AjW H w w' u0 (r.1)):=by
 refine Az 76 [(0,.agg #[No a0.1,s]),(1,o)] func146 Z fun hL=>Aj<|C9 (t:=46) Z Z hL fun w1 b1 dn d8 _=>Aq 1 Z<|A9 AF.e Z dn fun w2 b2 ba d9 _=>Ac<|Ur<|AB<|Bt 1 Z<|Ai (Bk aa)<|A7 1 Z<|AO h ?_ ?_<;>intro dp h
 ·refine Aj<|Aw h fun x5 dq h=>AE ba (D1 _ _ (An ba) dq) fun w6 ey dr ea=>Aq 1 Z<|Af 0 Z dr Z fun w7 c4 eb=>Ac<|Ay<|Ao<|Gu ?_
  cases h
  refine Bu (.tmp Z) (.cell Z Aje Z AF.e (AH (i:=0) c4 Z)) ⟨c4.ext,_,Z,Ci.nil⟩
 refine Av<|Ar<|AB<|Bt 1 Z<|Ai (Bk aa)<|A7 1 Z<|AO h ?_ ?_<;>intro ds h
 ·refine Aj<|Aw h fun ez c5 h=>AE ba (D1 _ _ (An ba) c5) fun e0 ec c6 du=>Aq 1 Z<|Af 0 Z c6 Z fun e1 bz dv=>Ac<|Ay<|Ao<|Gu ?_
  cases h
  refine Bu (.tmp Z) (.cell Z Aje Z AF.e (AH (i:=0) bz Z)) ⟨bz.ext,_,Z,Ci.nil⟩
 refine Av<|Ar<|By Unit (fun(_:Unit)=>[(1,o),(2,(Acy b1)),(5,(Acy b2))]) (fun(_:Unit) wr=>Bb w [.box b2 [No 0,No 0] 28,.box b1 [No a0.1,s] 46] wr/\(FW a0 a1)=some r) ?_ ?_
 ·refine Bt 1 Z<|Ai (Bk aa)<|A7 1 Z<|A3 ?_;obtain⟨b0,h⟩:=Ba h;refine B5 (Int×Nat) (fun⟨p,n⟩=>[(1,o),(2,(Acy b1)),(5,(Acy b2)),(22,o),(23,No (a1.length:Int)),(24,No p)]) (fun⟨p,n⟩ wr=>Bb w [.box b2 [No 0,No 0] 28,.box b1 [No a0.1,s] 46] wr/\H8 (CL a0 a1) n p=some r) (fun⟨p,n⟩=>n) (0,b0) Z ⟨ba,h⟩ ?_;rintro⟨p,nn71⟩ ed ⟨ax,h⟩;obtain⟨b0,e2,rfl,h,bd⟩:=AY h;refine AI 1 Z<|AB<|AO h ?_ ?_<;>intro c7 h
  ·refine Av<|Ar<|AB<|A3<|Bt 1 Z<|A1 h fun b3 h=>Be aa p.toNat (G1 b3) (AX b3) ?_;rintro e3 _ rfl c8;refine Ai (Bl c8 (hH.trans ax.arg))<|A7 2 Z<|Bt 1 Z<|Aw h fun e4 c9 h=>AE ax (JY _ _ (An ax) (hU.mono  Ah) c9) fun e5 ee da dw=>A9 AF.e Z da fun e6 e7 db dx _=>Af 0 Z db Z fun e8 aq dy=>Ac<|Aj<|Ai (A4 0 Z AF.e aq Z)<|Ai (AT (fun _=>BM _))<|Ai (JJ Jg (MR _ _ _ _))<|Ac<|CN h ?_ ?_<;>intro dc h
   ·refine Aj<|Ai (Ae Z Aje Z CO.e)<|Ai (Ag 0 Z aq Z)<|Aq 1 Z<|Aw h fun e9 dd h=>AE aq (D1 _ _ (An aq) dd) fun fa ef de dz=>Aq 1 Z<|Af 1 Z de Z fun fb b4 d0=>Ac<|Ay<|Ax<|Ao<|BN ?_;have h:=Ce.out h bd;refine Ax<|BI<|Gu ?_
    cases h
    refine Bu (.tmp Z) (.cell Z Aje Z AF.e (AH (i:=1) b4 Z)) ⟨b4.ext,_,Z,Ci.nil⟩
   refine Av<|A2<|Ar<|As<|A1 h fun df h=>Ai (A6 df)<|Aq 1 Z<|AL ?_;have dg:=aq.AQ (i:=0) Z;have h:=Ce.again h bd;refine AM (_,_) Z ⟨dg,h⟩
  refine B2<|AD<|A5 ?_;have h:=Ce.out h bd;refine Bf<|AA () ⟨ax,h⟩
 rintro _ eg ⟨dh,h⟩;refine Bt 1 Z ?_;obtain⟨b5,d1,be⟩:=DG AjW H 137 dh;refine Ac<|AB<|AaV<|Ar<|By (AjL×Value×(List Value)) (fun⟨ar,am,ac⟩=>[(5,(Acy b2)),(9,am)]) (fun⟨ar,am,ac⟩ wr=>FI w [.row am 137 2 (ar).length ac,.box b2 [No 0,No 0] 28,.box b1 [No a0.1,s] 46] wr fun Oz=>AG AjW (gz H w wr Oz) ar ac/\FV ar=some r) ?_ ?_
 ·refine Eu (Qqz 0 4 (.q 6 (.h 4 (.q 5 (.tail 7))))) mixed Qqb (fun eh bi=>?_);have ad:=b5.call bi;have b6:=AR b5 bi;refine CD Z (A4 2 Z L7.e ad Z) Z<|D0 1 Z<|A1 h fun bj h=>HR Z Z Z Aed aa ((0:Int).toNat) (G1 bj) (AX bj) Z ?_;rintro ei _ rfl ce;refine CD Z (Bl ce (hH.trans ad.arg)) Z<|D0 1 Z<|Aw h fun c cf h=>Cs Z Z Z (fun di an=>GZ _ _ (An (ad.call an)) (bx.mono  Ah) cf) ?_;rintro di k ej an ay ⟨_,rfl,bt⟩;have az:=ad.call an;have b7:=AR ad an;have bk:=az.call ay;have b8:=AR az ay;have x:=bt.mono (DS az ay);refine CD Z (Bk x) Z<|BU (fun ek bl=>?_);have cg:=bk.call bl;have bb:=AR bk bl;refine Ac<|A3 ?_;obtain⟨bf,h⟩:=Ba h;have be:=be.mono (Aa (b6.trans (b7.trans (b8.trans bb))));have x:=x.mono (Aa bb)
  refine B5 (AjL×Int×Value×(List Value)×Nat) (fun⟨e,a,f,d,n⟩=>[(1,o),(2,(Acy b1)),(5,(Acy b2)),(9,f),(43,k),(44,No (c.length:Int)),(45,No a)]) (fun⟨e,a,f,d,n⟩ wr=>FI w [.row f 137 2 (e).length d,.box b2 [No 0,No 0] 28,.box b1 [No a0.1,s] 46] wr fun Oz=>AJ AjW (gz H w wr Oz) k c/\AG AjW (gz H w wr Oz) e d/\H8 (CK a0 a1 c) n (e,a)=some r) (fun⟨e,a,f,d,n⟩=>n) (([]:List (Int×Int)),0,AaB,[],bf) Z ⟨cg,x,be,h⟩ ?_;rintro⟨e,a,f,d,nn294⟩ d2 ⟨a2,y,b,h⟩;obtain⟨bf,bg,rfl,h,bm⟩:=AY h;refine AI 1 Z<|AB<|AO h ?_ ?_<;>intro ch h
  ·refine Av<|Ar<|By (AjL×Value×(List Value)) (fun⟨ak,ae,u⟩=>[(1,o),(2,(Acy b1)),(5,(Acy b2)),(9,ae),(43,k),(44,No (c.length:Int)),(45,No a)]) (fun⟨ak,ae,u⟩ wr=>FI w [.row ae 137 2 (ak).length u,.box b2 [No 0,No 0] 28,.box b1 [No a0.1,s] 46] wr fun Oz=>AJ AjW (gz H w wr Oz) k c/\AG AjW (gz H w wr Oz) ak u/\(CV a) ak=some bg) ?_ ?_
   ·refine A3<|Aj<|A1 h fun bn h=>Be y a.toNat (G1 bn) (AX bn) ?_;rintro el _ ⟨_,_,rfl,rfl,rfl⟩ ci;refine Ai (Cj ci (An a2))<|A9 Hu.e Z a2 fun em a3 cj au _=>Af 0 Z cj Z fun en ck av=>Ac<|By Unit (fun(_:Unit)=>[(1,o),(2,(Acy b1)),(5,(Acy b2)),(9,f),(11,(Acy a3)),(43,k),(44,No (c.length:Int)),(45,No a)]) (fun(_:Unit) wr=>FI w [.box a3 [No ((c.getD a.toNat Qq2).1),No ((c.getD a.toNat Qq2).2)] 137,.row f 137 2 (e).length d,.box b2 [No 0,No 0] 28,.box b1 [No a0.1,s] 46] wr fun Oz=>AJ AjW (gz H w wr Oz) k c/\AG AjW (gz H w wr Oz) e d/\(E2 e a c)=some bg) ?_ ?_
    ·refine Bt 1 Z<|Ai (Bk aa)<|A7 1 Z<|A3 ?_;obtain⟨bh,h⟩:=Ba h;have y:=y.mono (Aa (au.trans av));have b:=b.mono (Aa (au.trans av));refine B5 (Int×Nat) (fun⟨g,n⟩=>[(1,o),(2,(Acy b1)),(5,(Acy b2)),(9,f),(11,(Acy a3)),(43,k),(44,No (c.length:Int)),(45,No a),(49,o),(50,No (a1.length:Int)),(51,No g)]) (fun⟨g,n⟩ wr=>FI w [.box a3 [No ((c.getD a.toNat Qq2).1),No ((c.getD a.toNat Qq2).2)] 137,.row f 137 2 (e).length d,.box b2 [No 0,No 0] 28,.box b1 [No a0.1,s] 46] wr fun Oz=>AJ AjW (gz H w wr Oz) k c/\AG AjW (gz H w wr Oz) e d/\H8 (Ck a0 a1 e a c) n g=some bg) (fun⟨g,n⟩=>n) (0,bh) Z ⟨ck,y,b,h⟩ ?_;rintro⟨g,nn425⟩ d3 ⟨ao,j,b,h⟩;obtain⟨bh,eo,rfl,h,a4⟩:=AY h;refine AI 1 Z<|AB<|AO h ?_ ?_<;>intro cl h
     ·refine Av<|Ar<|AB<|A3<|Bt 1 Z<|A1 h fun bo h=>Be aa g.toNat (G1 bo) (AX bo) ?_;rintro ep _ rfl cm;refine Ai (Bl cm (hH.trans ao.arg))<|A7 2 Z<|Eu (.q 0 (.q 1 (Qqz 3 7 (.h 2 (.q 10 (.q 11 (.tail 12))))))) mixed Qqb (fun eq bp=>?_);have z:=ao.call bp;have af:=AR ao bp;refine CD Z (A4 3 Z L7.e z Z) Z<|D0 1 Z<|CD Z (Ae Z Ajp Z CO.e) Z<|CD Z (Ag 0 Z z Z) Z<|CD Z (Ae Z Ajp Z CO.e) Z<|CD Z (Ag 0 Z z Z) Z<|D0 1 Z<|A1 h fun cn h=>CD Z (A6 cn) Z<|CD Z (AT (fun _=>Vj _ _ _)) Z<|Aw h fun er co h=>Cs Z Z Z (fun dj ap=>GZ _ _ (An (z.call ap)) (bx.mono  Ah) co) ?_;rintro dj dt dk ap a5 ⟨_,rfl,bu⟩;have a6:=z.call ap;have ag:=AR z ap;have a7:=a6.call a5;have ah:=AR a6 a5;have bv:=bu.mono (DS a6 a5)
      refine Aw h fun es cp h=>?_;have b9:=(fun(ca:World) (cq:Ext dk ca)=>Lg ca _ (Le.refl _) ((bv.mono (An a7)).mono cq.le) cp);refine JI Z Z Z b9<|D0 1 Z<|BU (fun et bq=>?_);have br:=a7.call bq;have ai:=AR a7 bq;refine Ac<|B3 h ?_ ?_<;>intro cr h
      ·refine B2<|Mp<|AD<|A5 ?_;have h:=Ce.out h a4;refine Mp<|Qe<|Bf ?_;have cs:=br.AQ (i:=0) Z;have j:=j.mono (Aa (af.trans (ag.trans (ah.trans (ai.trans (Ak (i:=0) Z))))));have b:=b.mono (Aa (af.trans (ag.trans (ah.trans (ai.trans (Ak (i:=0) Z))))));refine AA (_,_,_) ⟨cs,j,b,h⟩
      refine Av<|A2<|Ar<|As<|A1 h fun ct h=>Ai (A6 ct)<|Aq 1 Z<|AL ?_;have h:=Ce.again h a4;have j:=j.mono (Aa (af.trans (ag.trans (ah.trans ai))));have b:=b.mono (Aa (af.trans (ag.trans (ah.trans ai))));refine AM (_,_) Z ⟨br,j,b,h⟩
     refine B2<|AD<|A5 ?_;have h:=Ce.out h a4;refine Bf<|AA () ⟨ao,j,b,h⟩
    have b:=b.mono (Aa (au.trans av));rintro _ d4 ⟨bs,al,b,h⟩;refine As<|Aq 1 Z<|Ai (A4 0 Z Hu.e bs Z)<|B6 [((c.getD a.toNat Qq2).1,(c.getD a.toNat Qq2).2)] (r:=AjW) (fun _=>YM _ _ _) bs (.c2 ⟨_,_,Z,Z,Z⟩ .nil) fun eu ev d5 cu bc cv=>A1 h fun cw h=>?_;have b:=b.mono (Aa bc);refine Br (r:=AjW) 1 e [((c.getD a.toNat Qq2).1,(c.getD a.toNat Qq2).2)] Z Ajn cu Z b cv cw fun dl ew cx cy cb a8=>Aq 1 Z<|AL<|A2 ?_;have cz:=cy.AQ (i:=0) Z;have al:=al.mono (Aa (bc.trans (cb.trans (Ak (i:=0) Z))));have a8:=a8.mono (Aa (Ak (i:=0) Z));refine AA (_,_,_) ⟨cz,al,a8,h⟩
   rintro⟨ak,ae,u⟩ d6 ⟨c0,bw,cc,h⟩;refine As<|A1 h fun c1 h=>Ai (A6 c1)<|Aq 1 Z<|AL ?_;have h:=Ce.again h bm;refine AM (_,_,_,_,_) Z ⟨c0,bw,cc,h⟩
  refine B2<|AD<|A5 ?_;have h:=Ce.out h bm;refine Bf<|AA (_,_,_) ⟨a2,b,h⟩
 rintro⟨ar,am,ac⟩ d7 ⟨c3,aw,h⟩;refine Bt 1 Z<|Ai (AT (fun _=>BM _))<|Aq 1 Z<|Af 1 Z c3 Z fun ex a9 cd=>Ac<|Ay<|Gu ?_
 cases h
 refine Bu (.tmp Z) (.cell Z Aje Z AF.e (AH (i:=1) a9 Z)) ?_;have aw:=aw.mono (Aa cd);exact⟨a9.ext,_,Z,(a9.Ii hH (i:=0) Z aw)⟩
end
def EN(a0:Int×Int)(a1:Int×Int)(a2:Int):Option (Bool×(Int×Int)×Int):=
 AN (Bz (a1.2 - a0.2)) (AN (Bz (a0.2 - a1.2)) (if(a1.1=a0.1)/\(0<(max (a1.2 - a0.2) (a0.2 - a1.2))) then some (decide ((max (a1.2 - a0.2) (a0.2 - a1.2))<=a2),(a1.1,a1.2),a2) else some (false,(a1.1,a1.2),a2)))
theorem PX{d w:World}{H:PH}(_hH:Le H (hp d)){O:List BS}{a0 a1:Int×Int}{a2:Int}{ba1 ba2:Nat}(hL:Bb d (Ha [.box ba1 [No a1.1,No a1.2] 137,.box ba2 [No a2] 3] O) w){r:Bool×(Int×Int)×Int}(h:EN a0 a1 a2=some r):
  Ok prog 197 [.agg #[No a0.1,No a0.2],Acy ba1,Acy ba2] w (fun v w'=>v=.bool r.1/\Bb d (Ha [.box ba1 [No r.2.1.1,No r.2.1.2] 137,.box ba2 [No r.2.2] 3] O) w'/\Le (fz w (Ha [.box ba1 [No a1.1,No a1.2] 137,.box ba2 [No a2] 3] O)) (fz w' (Ha [.box ba1 [No r.2.1.1,No r.2.1.2] 137,.box ba2 [No r.2.2] 3] O))):=by
 refine Dp (n:=31) [(0,.agg #[No a0.1,No a0.2]),(1,(Acy ba1)),(2,(Acy ba2))] func197 Z Z Z Z ?_;have hT:=Le.refl (fz w (Ha [.box ba1 [No a1.1,No a1.2] 137,.box ba2 [No a2] 3] O));refine Aj<|C9 (t:=137) Z Z hL fun k l a c _=>A7 1 Z<|Aj<|Ai (Ae Z Ajp Z CO.e)<|Ai (Ag 1 Z a Z)<|Ai (Ae Z Ajp Z CO.e)<|Ai (Ag 0 Z a Z)<|A1 h fun e h=>Ai (A6 e)<|Ai (Ae Z Ajp Z CO.e)<|Ai (Ag 0 Z a Z)<|Ai (Ae Z Ajp Z CO.e)<|Ai (Ag 1 Z a Z)<|A1 h fun f h=>Ai (A6 f)<|Ai (AcX Z Z)<|A7 1 Z<|Aj<|Ai (Ae Z Ajp Z CO.e)<|Ai (Ag 1 Z a Z)<|Ai (Ae Z Ajp Z CO.e)<|Ai (Ag 0 Z a Z)<|Aq 2 Z ?_;refine OG 2 5 Z Z Z Z Z Z<|Aq 1 Z<|CE 26 h ?_ ?_<;>intro b h
 ·refine Ab b<|Ai (Am Z)<|Ab b<|Ai (Ag 2 Z a Z)<|Ab b<|Ai (Am Z)<|Ai (AK b Z)<|A7 1 Z<|Ay ?_
  cases h
  refine Al Z ?_;have g:=a.AQ (i:=0) Z;have hT:=hT.trans (c.trans (Ak (i:=0) Z));exact⟨Z,g,hT⟩
 iterate 3 refine Au b ?_
 refine Ai (AS b Z)<|A7 1 Z<|Ay ?_
 cases h
 refine Al Z ?_;have j:=a.AQ (i:=0) Z;have hT:=hT.trans (c.trans (Ak (i:=0) Z));exact⟨Z,j,hT⟩
def Cq(a b c:Int):Option (Int×(Int×Int)×Int):=
 some ((-1),(a,b),c)
def Bp(a0:List (Int×Int)):Int×Int×Int×Int->Option ((Int×Int×Int×Int) ⊕ (Int×(Int×Int)×Int)):=fun⟨c,d,e,a⟩=>
 if a<(a0.length:Int) then AN (0<=a/\a<(a0.length:Int)) (Qq4 (EN ((a0.getD a.toNat Qq2).1,(a0.getD a.toNat Qq2).2) (c,d) e) (fun b=>if b.1 then Qq7 Sum.inr (some (a,(b.2.1.1,b.2.1.2),b.2.2)) else AN (Bz (a+1)) (some (Sum.inl (b.2.1.1,b.2.1.2,b.2.2,(a+1)))))) else Qq7 Sum.inr (Cq c d e)
def Dm(a0:List (Int×Int))(s:Int×Int×Int×Int):Option (Int×(Int×Int)×Int):=Go.L.run (Bp a0) s
def CM(a0:List (Int×Int))(a1_c0:Int×Int)(a1_c1:Int):Option (Int×(Int×Int)×Int):=
 (Dm a0) (a1_c0.1,a1_c0.2,a1_c1,0)
theorem KK{g w:World}{H:PH}(hH:Le H (hp g)){O:List BS}{a0:List (Int×Int)}{a1_c0:Int×Int}{a1_c1:Int}{va0:Value}{ba1_c0 ba1_c1:Nat}(hL:Bb g (Ha [.box ba1_c0 [No a1_c0.1,No a1_c0.2] 137,.box ba1_c1 [No a1_c1] 3] O) w)(t:AJ AjW (gz H g w (Ha [.box ba1_c0 [No a1_c0.1,No a1_c0.2] 137,.box ba1_c1 [No a1_c1] 3] O)) va0 a0){r:Int×(Int×Int)×Int}(h:CM a0 a1_c0 a1_c1=some r):
  Ok prog 254 [va0,.func (.func 197) #[] #[Acy ba1_c0,Acy ba1_c1]] w (fun v w'=>v=No r.1/\Bb g (Ha [.box ba1_c0 [No r.2.1.1,No r.2.1.2] 137,.box ba1_c1 [No r.2.2] 3] O) w'/\Le (fz w (Ha [.box ba1_c0 [No a1_c0.1,No a1_c0.2] 137,.box ba1_c1 [No a1_c1] 3] O)) (fz w' (Ha [.box ba1_c0 [No r.2.1.1,No r.2.1.2] 137,.box ba1_c1 [No r.2.2] 3] O))):=by
 refine Dp (n:=19) [(0,va0),(1,.func (.func 197) #[] #[Acy ba1_c0,Acy ba1_c1])] func254 Z Z Z Z ?_;have hT:=Le.refl (fz w (Ha [.box ba1_c0 [No a1_c0.1,No a1_c0.2] 137,.box ba1_c1 [No a1_c1] 3] O));refine AI 1 Z<|By (Int×Int×Int) (fun⟨k,l,m⟩=>[]) (fun⟨k,l,m⟩ wr=>FI g (Ha [.box ba1_c0 [No k,No l] 137,.box ba1_c1 [No m] 3] O) wr fun Oz=>Le (fz w (Ha [.box ba1_c0 [No a1_c0.1,No a1_c0.2] 137,.box ba1_c1 [No a1_c1] 3] O)) (fz wr Oz)/\Cq k l m=some r) ?_ ?_
 ·refine Bt 1 Z<|Ai (Bk t)<|A7 1 Z<|A3 ?_;obtain⟨o,h⟩:=Ba h;refine B5 (Int×Int×Int×Int×Nat) (fun⟨c,d,e,a,n⟩=>[(0,va0),(1,.func (.func 197) #[] #[Acy ba1_c0,Acy ba1_c1]),(7,No (a0.length:Int)),(8,No a)]) (fun⟨c,d,e,a,n⟩ wr=>FI g (Ha [.box ba1_c0 [No c,No d] 137,.box ba1_c1 [No e] 3] O) wr fun Oz=>AJ AjW (gz H g wr Oz) va0 a0/\Le (fz w (Ha [.box ba1_c0 [No a1_c0.1,No a1_c0.2] 137,.box ba1_c1 [No a1_c1] 3] O)) (fz wr Oz)/\H8 (Bp a0) n (c,d,e,a)=some r) (fun⟨c,d,e,a,n⟩=>n) (a1_c0.1,a1_c0.2,a1_c1,0,o) Z ⟨hL,t,hT,h⟩ ?_;rintro⟨c,d,e,a,nn51⟩ ac ⟨i,b,hT,h⟩;obtain⟨o,ae,rfl,h,j⟩:=AY h;refine AI 1 Z<|AB<|AO h ?_ ?_<;>intro u h
  ·refine Av<|Ar<|AB<|A3<|AI 2 Z<|Bt 3 Z<|A1 h fun p h=>Be b a.toNat (G1 p) (AX p) ?_;rintro af _ ⟨_,_,rfl,rfl,rfl⟩ x;refine Ai (Cj x (An i))<|Aw h fun q y h=>Fb Z Z (PX (a0:=((a0.getD a.toNat Qq2).1,(a0.getD a.toNat Qq2).2)) (a1:=(c,d)) (a2:=e) (O:=(Ha [] O)) hH i y) ?_;rintro _ ag ⟨rfl,s,f⟩;refine Ac<|B3 h ?_ ?_<;>intro z h
   ·refine AI 2 Z<|Ay<|Ax<|Ao<|BN ?_;have h:=Ce.out h j;refine Ax<|BI ?_
    cases h
    refine Al Z ?_;have hT:=hT.trans f;exact⟨Z,s,hT⟩
   refine Av<|A2<|Ar<|As<|A1 h fun aa h=>Ai (A6 aa)<|Aq 1 Z<|AL ?_;have h:=Ce.again h j;have b:=b.mono (Aa f);have hT:=hT.trans f;refine AM (_,_,_,_,_) Z ⟨s,b,hT,h⟩
  refine B2<|AD<|A5 ?_;have h:=Ce.out h j;refine Bf<|AA (_,_,_) ⟨i,hT,h⟩
 rintro⟨k,l,m⟩ ad ⟨ab,hT,h⟩;refine AI 1 Z<|Ay ?_
 cases h
 refine Al Z ⟨Z,ab,hT⟩
def BJ(a0:List (Int×Int))(a1_c0:Int×Int)(a1_c1:Int):Option (Bool×(Int×Int)×Int):=
 Qq4 (CM a0 (a1_c0.1,a1_c0.2) a1_c1) (fun a=>some (decide (0<=a.1),(a.2.1.1,a.2.1.2),a.2.2))
theorem Kb{a w:World}{H:PH}(hH:Le H (hp a)){O:List BS}{a0:List (Int×Int)}{a1_c0:Int×Int}{a1_c1:Int}{va0:Value}{ba1_c0 ba1_c1:Nat}(hL:Bb a (Ha [.box ba1_c0 [No a1_c0.1,No a1_c0.2] 137,.box ba1_c1 [No a1_c1] 3] O) w)(c:AJ AjW (gz H a w (Ha [.box ba1_c0 [No a1_c0.1,No a1_c0.2] 137,.box ba1_c1 [No a1_c1] 3] O)) va0 a0){r:Bool×(Int×Int)×Int}(h:BJ a0 a1_c0 a1_c1=some r):
  Ok prog 196 [va0,.func (.func 197) #[] #[Acy ba1_c0,Acy ba1_c1]] w (fun v w'=>v=.bool r.1/\Bb a (Ha [.box ba1_c0 [No r.2.1.1,No r.2.1.2] 137,.box ba1_c1 [No r.2.2] 3] O) w'/\Le (fz w (Ha [.box ba1_c0 [No a1_c0.1,No a1_c0.2] 137,.box ba1_c1 [No a1_c1] 3] O)) (fz w' (Ha [.box ba1_c0 [No r.2.1.1,No r.2.1.2] 137,.box ba1_c1 [No r.2.2] 3] O))):=by
 refine Dp (n:=9) [(0,va0),(1,.func (.func 197) #[] #[Acy ba1_c0,Acy ba1_c1])] func196 Z Z Z Z ?_;have hT:=Le.refl (fz w (Ha [.box ba1_c0 [No a1_c0.1,No a1_c0.2] 137,.box ba1_c1 [No a1_c1] 3] O));refine AI 1 Z<|Bt 2 Z<|Aw h fun f d h=>EJ (KK (a0:=a0) (a1_c0:=(a1_c0.1,a1_c0.2)) (a1_c1:=a1_c1) (O:=(Ha [] O)) hH hL c d) ?_;rintro _ g ⟨rfl,e,b⟩;refine A7 2 Z<|Ay ?_
 cases h
 refine Al Z ?_;have hT:=hT.trans b;exact⟨Z,e,hT⟩
def Hb(a:List Int)(_c100:Int):Option AjQ:=
 some (a,(0,0))
def Dt(a0:Int×AjJ)(a2:AcC)(d:AjL):(List Int)×Int×Int->Option (AjT ⊕ AjQ):=fun⟨c,e,a⟩=>
 if a<(d.length:Int) then AN (0<=a/\a<(d.length:Int)) (Qq4 (D9 (a0.1,a0.2) a2) (fun f=>Qq4 (BJ f ((d.getD a.toNat Qq2).1,(d.getD a.toNat Qq2).2) e) (fun b=>if b.1 then Qq4 (BC c b.2.1.1) (fun g=>if !g then AN (Go.E.H7 8 (c.length+([b.2.1.1]).length)) (AN (Bz (a+1)) (some (Sum.inl ((c++[b.2.1.1]),b.2.2,(a+1))))) else AN (Bz (a+1)) (some (Sum.inl (c,b.2.2,(a+1))))) else AN (Bz (a+1)) (some (Sum.inl (c,b.2.2,(a+1))))))) else Qq7 Sum.inr (Hb c e)
def K1(a0:Int×AjJ)(a2:AcC)(a:AjL)(s:(List Int)×Int×Int):Option AjQ:=Go.L.run (Dt a0 a2 a) s
def EW(a0:Int×AjJ)(a1:AcC)(a2:AcC)(a3:Int):Option AjQ:=
 Qq4 (Hv a1) (fun b=>if b.1=0/\b.2=0 then Qq4 (Hv a2) (fun a=>if a.1=0/\a.2=0 then(if a3<1 then Qq4 (DV (4:Int) (-3:Int)) (fun c=>some ([],(c.1,c.2))) else if 2048<a3 then Qq4 (DV (4:Int) (-3:Int)) (fun d=>some ([],(d.1,d.2))) else Qq4 (D9 (a0.1,a0.2) a1) (fun f=>(K1 a0 a2 f) (([]:List Int),a3,0))) else Qq4 (DV a.1 (-2:Int)) (fun e=>some ([],(e.1,e.2)))) else some ([],(b.1,b.2)))
section
variable(w:World)(H:PH)(hH:Le H (hp w)) include hH
theorem Rl(hU:Ge H){a0:Int×AjJ}{a1 a2:AcC}{a3:Int}{k:Value}(bw:AJ (.pair .st (.vec AjW)) H k (a0.2)){r:(List Int)×(Int×Int)}(h:EW a0 a1 a2 a3=some r):
  Qqv 147 [.agg #[No a0.1,k],AcB a1,AcB a2,No a3] w (fun v w'=>∃ u0,v=.tuple #[u0,.agg #[No r.2.1,No r.2.2]]/\Ci 3 (.int .i64) H w w' u0 (r.1)):=by
 refine Az 66 [(0,.agg #[No a0.1,k]),(1,(AcB a1)),(2,(AcB a2)),(3,No a3)] func147 Z fun hL=>Aj<|C9 (t:=46) Z Z hL fun w1 b1 dg d3 _=>Qq (t:=3) Z Z dg fun w2 b2 dh d4 _=>Aq 1 Z<|A9 AF.e Z dh fun w3 b3 cw d5 _=>Ac<|AB<|Bt 1 Z<|Aw h fun s di h=>AE cw (JY _ _ (An cw) (hU.mono  Ah) di) fun w5 em dj d6=>A9 AF.e Z dj fun w6 b6 dk d7 _=>Af 0 Z dk Z fun w7 bk d8=>Ac<|Aj<|Ai (A4 0 Z AF.e bk Z)<|Ai (AT (fun _=>BM _))<|Ai (JJ Jg (MR _ _ _ _))<|Ac<|CN h ?_ ?_<;>intro dl h
 ·refine Eu (.q 0 (.q 1 (.tail 2))) mixed Qqb (fun en cx=>?_);have bx:=bk.call cx;refine CD Z (A4 0 Z AF.e bx Z) Z<|D0 1 Z<|BU (fun eo cy=>?_);have cz:=bx.call cy;refine Af 1 Z cz Z fun ep bz dn=>Ac<|Ay<|Ao ?_
  cases h
  refine Bu (.tmp Z) (.cell Z Aje Z AF.e (AH (i:=1) bz Z)) ⟨bz.ext,_,Z,Ci.nil⟩
 refine Av<|Ar<|AB<|Bt 1 Z<|Aw h fun g c0 h=>AE bk (JY _ _ (An bk) (hU.mono  Ah) c0) fun eq d9 c2 dp=>A9 AF.e Z c2 fun er ac c3 dq _=>Af 0 Z c3 Z fun es p dr=>Ac<|Aj<|Ai (A4 0 Z AF.e p Z)<|Ai (AT (fun _=>BM _))<|Ai (JJ Jg (MR _ _ _ _))<|Ac<|CN h ?_ ?_<;>intro c4 h
 ·refine Aj<|Ai (Ae Z Aje Z CO.e)<|Ai (Ag 0 Z p Z)<|Aw h fun et c5 h=>AE p (D1 _ _ (An p) c5) fun eu ea c6 ds=>Aq 1 Z<|Af 2 Z c6 Z fun ev b0 dt=>Ac<|Ay<|Ao ?_
  cases h
  refine Bu (.tmp Z) (.cell Z Aje Z AF.e (AH (i:=2) b0 Z)) ⟨b0.ext,_,Z,Ci.nil⟩
 refine Av<|Ar<|AB<|Aj<|Ai (Ag 3 Z p Z)<|Aq 2 Z<|CE 32 h ?_ ?_<;>intro af h
 ·iterate 2 refine Au af ?_
  refine Ai (AK af Z)<|Ac<|Ff<|Aj<|Aw h fun ew c7 h=>AE p (D1 _ _ (An p) c7) fun ex eb c8 du=>Aq 1 Z<|Af 2 Z c8 Z fun ey b4 dv=>Ac<|Ay<|Ao ?_
  cases h
  refine Bu (.tmp Z) (.cell Z Aje Z AF.e (AH (i:=2) b4 Z)) ⟨b4.ext,_,Z,Ci.nil⟩
 refine Ab af<|Ai (Ag 3 Z p Z)<|Ab af<|Ai (Am Z)<|Ai (AS af Z)<|Ac<|AO h ?_ ?_<;>intro c9 h
 ·refine Aj<|Aw h fun ez da h=>AE p (D1 _ _ (An p) da) fun e0 ec db dw=>Aq 1 Z<|Af 2 Z db Z fun e1 b5 dx=>Ac<|Ay<|Ao ?_
  cases h
  refine Bu (.tmp Z) (.cell Z Aje Z AF.e (AH (i:=2) b5 Z)) ⟨b5.ext,_,Z,Ci.nil⟩
 refine Av<|Ar<|Bt 1 Z ?_;obtain⟨ar,dy,bi⟩:=DG (.int .i64) H 3 p;refine Ac<|By ((List Int)×Int×Value×(List Value)) (fun⟨a9,au,av,ai⟩=>[(9,(Acy b3)),(12,av)]) (fun⟨a9,au,av,ai⟩ wr=>FI w [.row av 3 1 (a9).length ai,.box ac [No g.1,No g.2] 28,.box b6 [No s.1,No s.2] 28,.box b3 [No 0,No 0] 28,.box b2 [No au] 3,.box b1 [No a0.1,k] 46] wr fun Oz=>AG (.int .i64) (gz H w wr Oz) a9 ai/\Hb a9 au=some r) ?_ ?_
 ·refine Aj<|Ai (A4 5 Z L7.e ar Z)<|Aq 1 Z<|Aw h fun ad cd h=>Bh ar (GZ (a0:=(a0.1,a0.2)) _ _ (An ar) (bw.mono  Ah) cd) ?_;rintro ba ed ⟨_,rfl,bu⟩ ce cf b7;have aq:=bu.mono (DS ar ce);refine Ai (Bk aq)<|A7 1 Z<|A3 ?_;obtain⟨an,h⟩:=Ba h;have bi:=bi.mono (Aa b7)
  refine B5 ((List Int)×Int×Int×Value×(List Value)×Nat) (fun⟨d,x,a,f,b,n⟩=>[(2,(AcB a2)),(4,(Acy b1)),(7,(Acy b2)),(9,(Acy b3)),(12,f),(39,ba),(40,No (ad.length:Int)),(41,No a)]) (fun⟨d,x,a,f,b,n⟩ wr=>FI w [.row f 3 1 (d).length b,.box ac [No g.1,No g.2] 28,.box b6 [No s.1,No s.2] 28,.box b3 [No 0,No 0] 28,.box b2 [No x] 3,.box b1 [No a0.1,k] 46] wr fun Oz=>AJ AjW (gz H w wr Oz) ba ad/\AG (.int .i64) (gz H w wr Oz) d b/\H8 (Dt a0 a2 ad) n (d,x,a)=some r) (fun⟨d,x,a,f,b,n⟩=>n) (([]:List Int),a3,0,AaB,[],an) Z ⟨cf,aq,bi,h⟩ ?_;rintro⟨d,x,a,f,b,nn135⟩ dz ⟨aw,e,c,h⟩;obtain⟨an,ee,rfl,h,aj⟩:=AY h;refine AI 1 Z<|AB<|AO h ?_ ?_<;>intro cg h
  ·refine Av<|Ar<|AB<|A3<|Aj<|A1 h fun bl h=>Be e a.toNat (G1 bl) (AX bl) ?_;rintro ef _ ⟨_,_,rfl,rfl,rfl⟩ ch;refine Ai (Cj ch (An aw))<|A9 Hu.e Z aw fun eg dc ci y _=>Af 0 Z ci Z fun eh ak z=>Ac<|Aj<|Ai (A4 6 Z L7.e ak Z)<|Aq 1 Z<|Aw h fun dd cj h=>Bh ak (GZ (a0:=(a0.1,a0.2)) _ _ (An ak) (bw.mono  Ah) cj) ?_;rintro dm de ⟨_,rfl,bv⟩ ck bm aa;have ag:=bv.mono (DS ak ck);refine Aq 1 Z ?_;have bn:Bb w [.box dc [No ((ad.getD a.toNat Qq2).1),No ((ad.getD a.toNat Qq2).2)] 137,.box b2 [No x] 3,.row f 3 1 (d).length b,.box ac [No g.1,No g.2] 28,.box b6 [No s.1,No s.2] 28,.box b3 [No 0,No 0] 28,.box b1 [No a0.1,k] 46] de:=bm.Cy [5,1] Z;have u:=B0 [5,1] bm bn Z;refine Aw h fun j cl h=>?_;have ag:=ag.mono (Aa u)
   refine EJ (Kb (a0:=dd) (a1_c0:=((ad.getD a.toNat Qq2).1,(ad.getD a.toNat Qq2).2)) (a1_c1:=x) (O:=[.row f 3 1 (d).length b,.box ac [No g.1,No g.2] 28,.box b6 [No s.1,No s.2] 28,.box b3 [No 0,No 0] 28,.box b1 [No a0.1,k] 46]) hH bn ag cl) ?_;rintro _ b8 ⟨rfl,al,ab⟩;refine A7 1 Z<|Bt 2 Z<|GV 51 h ?_ ?_<;>intro o h
   ·refine Ab o<|Ai (Am Z)<|Ab o<|Ai (Ae Z Ajp Z CO.e)<|Ab o<|Ai (Ag 0 Z al Z)<|Ab o<|Aw h fun ei cm h=>?_;have c:=c.mono (Aa (y.trans (z.trans (aa.trans (u.trans ab)))));refine AE al (HF _ _ (Le.refl _) (al.RG hH (i:=2) Z c) cm) fun b9 d0 ax ae=>Ab o<|Ai (Am Z)<|Ai (AK o Z)<|Ac<|B3 h ?_ ?_<;>intro cn h
    ·refine As<|Aq 1 Z<|Ai (Ae Z Ajp Z CO.e)<|Ai (Ag 0 Z ax Z)<|B6 [j.2.1.1] (r:=(.int .i64)) (fun _=>Jm _ _) ax (.c1 Z .nil) fun ej ek d1 co bb cp=>A1 h fun cq h=>?_;have c:=c.mono (Aa (ae.trans bb));refine Br (r:=(.int .i64)) 2 d [j.2.1.1] Z Ahx co Z c cp cq fun bj ca ay cr cb az=>Aq 1 Z<|AL<|A2<|Ar<|As<|A1 h fun cs h=>Ai (A6 cs)<|Aq 1 Z<|AL ?_;have bo:=cr.AQ (i:=0) Z;have a4:Bb w [.box b6 [No s.1,No s.2] 28,.box b3 [No 0,No 0] 28,.box b2 [No j.2.2] 3,.row bj 3 1 ((d++[j.2.1.1])).length ay,.box ac [No g.1,No g.2] 28,.box b1 [No a0.1,k] 46] ca:=bo.Cy [4,4] Z;have bc:=B0 [4,4] bo a4 Z
     have bp:Bb w [.row bj 3 1 ((d++[j.2.1.1])).length ay,.box ac [No g.1,No g.2] 28,.box b6 [No s.1,No s.2] 28,.box b3 [No 0,No 0] 28,.box b2 [No j.2.2] 3,.box b1 [No a0.1,k] 46] ca:=a4.Cy [4,4] Z;have bd:=B0 [4,4] a4 bp Z;have h:=Ce.again h aj;have e:=e.mono (Aa (y.trans (z.trans (aa.trans (u.trans (ab.trans (ae.trans (bb.trans (cb.trans ((Ak (i:=0) Z).trans (bc.trans bd)))))))))));have az:=az.mono (Aa ((Ak (i:=0) Z).trans (bc.trans bd)));refine AM ((d++[j.2.1.1]),j.2.2,(a+1),bj,ay,an) Z ⟨bp,e,az,h⟩
    refine Av<|A2<|Ar<|As<|A1 h fun ct h=>Ai (A6 ct)<|Aq 1 Z<|AL ?_;have bq:=ax.AQ (i:=0) Z;have a5:Bb w [.box b6 [No s.1,No s.2] 28,.box b3 [No 0,No 0] 28,.box b2 [No j.2.2] 3,.row f 3 1 (d).length b,.box ac [No g.1,No g.2] 28,.box b1 [No a0.1,k] 46] b9:=bq.Cy [4,4] Z;have be:=B0 [4,4] bq a5 Z;have br:Bb w [.row f 3 1 (d).length b,.box ac [No g.1,No g.2] 28,.box b6 [No s.1,No s.2] 28,.box b3 [No 0,No 0] 28,.box b2 [No j.2.2] 3,.box b1 [No a0.1,k] 46] b9:=a5.Cy [4,4] Z;have bf:=B0 [4,4] a5 br Z;have h:=Ce.again h aj;have e:=e.mono (Aa (y.trans (z.trans (aa.trans (u.trans (ab.trans (ae.trans ((Ak (i:=0) Z).trans (be.trans bf)))))))));have c:=c.mono (Aa (ae.trans ((Ak (i:=0) Z).trans (be.trans bf))));refine AM (d,j.2.2,(a+1),f,b,an) Z ⟨br,e,c,h⟩
   iterate 5 refine Au o ?_
   refine Ai (AS o Z)<|Ac<|Gt<|Av<|A2<|Ar<|As<|A1 h fun cu h=>Ai (A6 cu)<|Aq 1 Z<|AL ?_;have bs:=al.AQ (i:=0) Z;have a6:Bb w [.box b6 [No s.1,No s.2] 28,.box b3 [No 0,No 0] 28,.box b2 [No j.2.2] 3,.row f 3 1 (d).length b,.box ac [No g.1,No g.2] 28,.box b1 [No a0.1,k] 46] b8:=bs.Cy [4,4] Z;have bg:=B0 [4,4] bs a6 Z;have bt:Bb w [.row f 3 1 (d).length b,.box ac [No g.1,No g.2] 28,.box b6 [No s.1,No s.2] 28,.box b3 [No 0,No 0] 28,.box b2 [No j.2.2] 3,.box b1 [No a0.1,k] 46] b8:=a6.Cy [4,4] Z;have bh:=B0 [4,4] a6 bt Z;have h:=Ce.again h aj;have e:=e.mono (Aa (y.trans (z.trans (aa.trans (u.trans (ab.trans ((Ak (i:=0) Z).trans (bg.trans bh))))))));have c:=c.mono (Aa (y.trans (z.trans (aa.trans (u.trans (ab.trans ((Ak (i:=0) Z).trans (bg.trans bh))))))))
   refine AM (d,j.2.2,(a+1),f,b,an) Z ⟨bt,e,c,h⟩
  refine B2<|AD<|A5 ?_;have h:=Ce.out h aj;refine Bf<|AA (_,_,_,_) ⟨aw,c,h⟩
 rintro⟨a9,au,av,ai⟩ d2 ⟨cv,a7,h⟩;refine Bt 1 Z<|Ai (AT (fun _=>BM _))<|Aq 1 Z<|Af 3 Z cv Z fun el a8 cc=>Ac<|Ay ?_
 cases h
 refine Bu (.tmp Z) (.cell Z Aje Z AF.e (AH (i:=3) a8 Z)) ?_;have a7:=a7.mono (Aa cc);exact⟨a8.ext,_,Z,(a8.Ii hH (i:=0) Z a7)⟩
def Cx(a0 a1:Int):Option ((Int×Int)):=
 some ((a0,a1))
theorem CY{a0 a1:Int}{r:(Int×Int)}(h:Cx a0 a1=some r):
  Qqv 34 [No a0,No a1] w (fun v w'=>v=.agg #[No r.1,No r.2]):=by
 refine Az 8 [(0,No a0),(1,No a1)] func34 Z fun hL=>Aj<|A9 AF.e Z hL fun e f b c _=>Ac<|Bt 2 Z<|Ai (AT (fun _=>Mx _ _ _))<|Af 0 Z b Z fun g a d=>Ac<|Ay ?_
 cases h
 refine Dv (.cell Z Aje Z AF.e (AH (i:=0) a Z)) ⟨a.ext,Z⟩
def IB(a0:Int):Option Bool:=
 some (decide ((1<=a0)/\(a0<=7)))
theorem M6{a0:Int}{r:Bool}(h:IB a0=some r):
  Qqv 90 [No a0] w (fun v w'=>v=.bool r):=by
 refine Az 9 [(0,No a0)] func90 Z fun hL=>AI 1 Z<|Bt 3 Z<|OG 2 2 Z Z Z Z Z Z<|A7 1 Z<|Ay ?_
 cases h
 refine Al Z ⟨hL.ext,Z⟩
end
def Jz(a0:Qv)(a1:Qv):Option (Bool×Qv):=
 some (decide (a0.f.1=a1.f.1),a1)
theorem RN{a w:World}{H:PH}(hH:Le H (hp a)){O:List BS}{a0 a1:Qv}{va0_1 va0_3 va0_6:Value}{ba1:Nat}{va1_1 va1_3 va1_6:Value}(hL:Bb a (Ha [.box ba1 [No a1.f.1,va1_1,AcB a1.f.2.2.1,va1_3,No a1.f.2.2.2.2.1,No a1.f.2.2.2.2.2.1,va1_6] 26] O) w)(_ha0_1:AJ .st (gz H a w (Ha [.box ba1 [No a1.f.1,va1_1,AcB a1.f.2.2.1,va1_3,No a1.f.2.2.2.2.1,No a1.f.2.2.2.2.2.1,va1_6] 26] O)) va0_1 (a0.f.2.1))(_ha0_3:AJ .byte (gz H a w (Ha [.box ba1 [No a1.f.1,va1_1,AcB a1.f.2.2.1,va1_3,No a1.f.2.2.2.2.1,No a1.f.2.2.2.2.2.1,va1_6] 26] O)) va0_3 (a0.f.2.2.2.1))(_ha0_6:AJ .B1 (gz H a w (Ha [.box ba1 [No a1.f.1,va1_1,AcB a1.f.2.2.1,va1_3,No a1.f.2.2.2.2.1,No a1.f.2.2.2.2.2.1,va1_6] 26] O)) va0_6 (a0.f.2.2.2.2.2.2))(k:AJ .st (gz H a w (Ha [.box ba1 [No a1.f.1,va1_1,AcB a1.f.2.2.1,va1_3,No a1.f.2.2.2.2.1,No a1.f.2.2.2.2.2.1,va1_6] 26] O)) va1_1 (a1.f.2.1))(l:AJ .byte (gz H a w (Ha [.box ba1 [No a1.f.1,va1_1,AcB a1.f.2.2.1,va1_3,No a1.f.2.2.2.2.1,No a1.f.2.2.2.2.2.1,va1_6] 26] O)) va1_3 (a1.f.2.2.2.1))(m:AJ .B1 (gz H a w (Ha [.box ba1 [No a1.f.1,va1_1,AcB a1.f.2.2.1,va1_3,No a1.f.2.2.2.2.1,No a1.f.2.2.2.2.2.1,va1_6] 26] O)) va1_6 (a1.f.2.2.2.2.2.2)){r:Bool×Qv}(h:Jz a0 a1=some r):
  Ok prog 156 [.agg #[No a0.f.1,va0_1,AcB a0.f.2.2.1,va0_3,No a0.f.2.2.2.2.1,No a0.f.2.2.2.2.2.1,va0_6],Acy ba1] w (fun v w'=>∃ (c:Value) (d:Value) (e:Value),v=.bool r.1/\Bb a (Ha [.box ba1 [No r.2.f.1,c,AcB r.2.f.2.2.1,d,No r.2.f.2.2.2.2.1,No r.2.f.2.2.2.2.2.1,e] 26] O) w'/\Le (fz w (Ha [.box ba1 [No a1.f.1,va1_1,AcB a1.f.2.2.1,va1_3,No a1.f.2.2.2.2.1,No a1.f.2.2.2.2.2.1,va1_6] 26] O)) (fz w' (Ha [.box ba1 [No r.2.f.1,c,AcB r.2.f.2.2.1,d,No r.2.f.2.2.2.2.1,No r.2.f.2.2.2.2.2.1,e] 26] O))/\AJ .st (gz H a w' (Ha [.box ba1 [No r.2.f.1,c,AcB r.2.f.2.2.1,d,No r.2.f.2.2.2.2.1,No r.2.f.2.2.2.2.2.1,e] 26] O)) c (r.2.f.2.1)/\AJ .byte (gz H a w' (Ha [.box ba1 [No r.2.f.1,c,AcB r.2.f.2.2.1,d,No r.2.f.2.2.2.2.1,No r.2.f.2.2.2.2.2.1,e] 26] O)) d (r.2.f.2.2.2.1)/\AJ .B1 (gz H a w' (Ha [.box ba1 [No r.2.f.1,c,AcB r.2.f.2.2.1,d,No r.2.f.2.2.2.2.1,No r.2.f.2.2.2.2.2.1,e] 26] O)) e (r.2.f.2.2.2.2.2.2)):=by
 refine Dp (n:=9) [(0,.agg #[No a0.f.1,va0_1,AcB a0.f.2.2.1,va0_3,No a0.f.2.2.2.2.1,No a0.f.2.2.2.2.2.1,va0_6]),(1,(Acy ba1))] func156 Z Z Z Z ?_;have hT:=Le.refl (fz w (Ha [.box ba1 [No a1.f.1,va1_1,AcB a1.f.2.2.1,va1_3,No a1.f.2.2.2.2.1,No a1.f.2.2.2.2.2.1,va1_6] 26] O));have b:=hL.rG H;refine Aj<|C9 (t:=26) Z Z hL fun p q g j _=>A7 1 Z<|Aj<|Ai (Ae Z Ajl Z CO.e)<|Ai (Ag 0 Z g Z)<|Ai (Ae Z Ajl Z CO.e)<|Ai (Ag 1 Z g Z)<|A7 2 Z<|Ay ?_
 cases h
 refine Al Z ?_;have o:=g.AQ (i:=0) Z;have b:=b.trans (Aa (j.trans (Ak (i:=0) Z)));have hT:=hT.trans (j.trans (Ak (i:=0) Z));exact⟨va1_1,va1_3,va1_6,Z,o,hT,(k.mono b),(l.mono b),(m.mono b)⟩
def C6(a:Int)(b:List AcC)(c:AcC)(d:AcC)(e f:Int)(g:List Qv):Option (Int×Qv):=
 some ((-1),(Qv.mk a b c d e f g))
def Bi(a0:List Qv):Int×(List AcC)×AcC×AcC×Int×Int×(List Qv)×Int->Option ((Int×(List AcC)×AcC×AcC×Int×Int×(List Qv)×Int) ⊕ (Int×Qv)):=fun⟨c,d,e,g,h,i,j,a⟩=>
 if a<(a0.length:Int) then AN (0<=a/\a<(a0.length:Int)) (Qq4 (Jz (a0.getD a.toNat Qq2) (Qv.mk c d e g h i j)) (fun b=>if b.1 then Qq7 Sum.inr (some (a,b.2)) else AN (Bz (a+1)) (some (Sum.inl (b.2.f.1,b.2.f.2.1,b.2.f.2.2.1,b.2.f.2.2.2.1,b.2.f.2.2.2.2.1,b.2.f.2.2.2.2.2.1,b.2.f.2.2.2.2.2.2,(a+1)))))) else Qq7 Sum.inr (C6 c d e g h i j)
def C7(a0:List Qv)(s:Int×(List AcC)×AcC×AcC×Int×Int×(List Qv)×Int):Option (Int×Qv):=Go.L.run (Bi a0) s
def Cf(a0:List Qv)(a1_c0:Qv):Option (Int×Qv):=
 (C7 a0) (a1_c0.f.1,a1_c0.f.2.1,a1_c0.f.2.2.1,a1_c0.f.2.2.2.1,a1_c0.f.2.2.2.2.1,a1_c0.f.2.2.2.2.2.1,a1_c0.f.2.2.2.2.2.2,0)
theorem JG{c w:World}{H:PH}(hH:Le H (hp c)){O:List BS}{a0:List Qv}{a1_c0:Qv}{va0:Value}{ba1_c0:Nat}{va1_c0_1 va1_c0_3 va1_c0_6:Value}(hL:Bb c (Ha [.box ba1_c0 [No a1_c0.f.1,va1_c0_1,AcB a1_c0.f.2.2.1,va1_c0_3,No a1_c0.f.2.2.2.2.1,No a1_c0.f.2.2.2.2.2.1,va1_c0_6] 26] O) w)(a9:AJ .B1 (gz H c w (Ha [.box ba1_c0 [No a1_c0.f.1,va1_c0_1,AcB a1_c0.f.2.2.1,va1_c0_3,No a1_c0.f.2.2.2.2.1,No a1_c0.f.2.2.2.2.2.1,va1_c0_6] 26] O)) va0 a0)(ha1_c0_1:AJ .st (gz H c w (Ha [.box ba1_c0 [No a1_c0.f.1,va1_c0_1,AcB a1_c0.f.2.2.1,va1_c0_3,No a1_c0.f.2.2.2.2.1,No a1_c0.f.2.2.2.2.2.1,va1_c0_6] 26] O)) va1_c0_1 (a1_c0.f.2.1))(ha1_c0_3:AJ .byte (gz H c w (Ha [.box ba1_c0 [No a1_c0.f.1,va1_c0_1,AcB a1_c0.f.2.2.1,va1_c0_3,No a1_c0.f.2.2.2.2.1,No a1_c0.f.2.2.2.2.2.1,va1_c0_6] 26] O)) va1_c0_3 (a1_c0.f.2.2.2.1))(ha1_c0_6:AJ .B1 (gz H c w (Ha [.box ba1_c0 [No a1_c0.f.1,va1_c0_1,AcB a1_c0.f.2.2.1,va1_c0_3,No a1_c0.f.2.2.2.2.1,No a1_c0.f.2.2.2.2.2.1,va1_c0_6] 26] O)) va1_c0_6 (a1_c0.f.2.2.2.2.2.2)){r:Int×Qv}(h:Cf a0 a1_c0=some r):
  Ok prog 204 [va0,.func (.func 156) #[] #[Acy ba1_c0]] w (fun v w'=>∃ (u2:Value) (u4:Value) (u7:Value),v=No r.1/\Bb c (Ha [.box ba1_c0 [No r.2.f.1,u2,AcB r.2.f.2.2.1,u4,No r.2.f.2.2.2.2.1,No r.2.f.2.2.2.2.2.1,u7] 26] O) w'/\Le (fz w (Ha [.box ba1_c0 [No a1_c0.f.1,va1_c0_1,AcB a1_c0.f.2.2.1,va1_c0_3,No a1_c0.f.2.2.2.2.1,No a1_c0.f.2.2.2.2.2.1,va1_c0_6] 26] O)) (fz w' (Ha [.box ba1_c0 [No r.2.f.1,u2,AcB r.2.f.2.2.1,u4,No r.2.f.2.2.2.2.1,No r.2.f.2.2.2.2.2.1,u7] 26] O))/\AJ .st (gz H c w' (Ha [.box ba1_c0 [No r.2.f.1,u2,AcB r.2.f.2.2.1,u4,No r.2.f.2.2.2.2.1,No r.2.f.2.2.2.2.2.1,u7] 26] O)) u2 (r.2.f.2.1)/\AJ .byte (gz H c w' (Ha [.box ba1_c0 [No r.2.f.1,u2,AcB r.2.f.2.2.1,u4,No r.2.f.2.2.2.2.1,No r.2.f.2.2.2.2.2.1,u7] 26] O)) u4 (r.2.f.2.2.2.1)/\AJ .B1 (gz H c w' (Ha [.box ba1_c0 [No r.2.f.1,u2,AcB r.2.f.2.2.1,u4,No r.2.f.2.2.2.2.1,No r.2.f.2.2.2.2.2.1,u7] 26] O)) u7 (r.2.f.2.2.2.2.2.2)):=by
 refine Dp (n:=19) [(0,va0),(1,.func (.func 156) #[] #[Acy ba1_c0])] func204 Z Z Z Z ?_;have hT:=Le.refl (fz w (Ha [.box ba1_c0 [No a1_c0.f.1,va1_c0_1,AcB a1_c0.f.2.2.1,va1_c0_3,No a1_c0.f.2.2.2.2.1,No a1_c0.f.2.2.2.2.2.1,va1_c0_6] 26] O));have ab:=hL.rG H;refine AI 1 Z<|By (Int×(List AcC)×AcC×AcC×Int×Int×(List Qv)×Value×Value×Value) (fun⟨aj,ak,al,am,an,ao,ap,i,j,k⟩=>[]) (fun⟨aj,ak,al,am,an,ao,ap,i,j,k⟩ wr=>FI c (Ha [.box ba1_c0 [No aj,i,AcB al,j,No an,No ao,k] 26] O) wr fun Oz=>AJ .st (gz H c wr Oz) i ak/\AJ .byte (gz H c wr Oz) j am/\AJ .B1 (gz H c wr Oz) k ap/\Le (fz w (Ha [.box ba1_c0 [No a1_c0.f.1,va1_c0_1,AcB a1_c0.f.2.2.1,va1_c0_3,No a1_c0.f.2.2.2.2.1,No a1_c0.f.2.2.2.2.2.1,va1_c0_6] 26] O)) (fz wr Oz)/\C6 aj ak al am an ao ap=some r) ?_ ?_
 ·refine Bt 1 Z<|Ai (Bk (a9.mono ab))<|A7 1 Z<|A3 ?_;obtain⟨a3,h⟩:=Ba h
  refine B5 (Int×(List AcC)×AcC×AcC×Int×Int×(List Qv)×Int×Value×Value×Value×Nat) (fun⟨l,m,o,p,q,s,t,a,d,e,g,n⟩=>[(0,va0),(1,.func (.func 156) #[] #[Acy ba1_c0]),(7,No (a0.length:Int)),(8,No a)]) (fun⟨l,m,o,p,q,s,t,a,d,e,g,n⟩ wr=>FI c (Ha [.box ba1_c0 [No l,d,AcB o,e,No q,No s,g] 26] O) wr fun Oz=>AJ .B1 (gz H c wr Oz) va0 a0/\AJ .st (gz H c wr Oz) d m/\AJ .byte (gz H c wr Oz) e p/\AJ .B1 (gz H c wr Oz) g t/\Le (fz w (Ha [.box ba1_c0 [No a1_c0.f.1,va1_c0_1,AcB a1_c0.f.2.2.1,va1_c0_3,No a1_c0.f.2.2.2.2.1,No a1_c0.f.2.2.2.2.2.1,va1_c0_6] 26] O)) (fz wr Oz)/\H8 (Bi a0) n (l,m,o,p,q,s,t,a)=some r) (fun⟨l,m,o,p,q,s,t,a,d,e,g,n⟩=>n) (a1_c0.f.1,a1_c0.f.2.1,a1_c0.f.2.2.1,a1_c0.f.2.2.2.1,a1_c0.f.2.2.2.2.1,a1_c0.f.2.2.2.2.2.1,a1_c0.f.2.2.2.2.2.2,0,va1_c0_1,va1_c0_3,va1_c0_6,a3) Z ⟨hL,(a9.mono ab),(ha1_c0_1.mono ab),(ha1_c0_3.mono ab),(ha1_c0_6.mono ab),hT,h⟩ ?_;rintro⟨l,m,o,p,q,s,t,a,d,e,g,nn71⟩ bf ⟨x,ac,aq,ar,au,hT,h⟩
  obtain⟨a3,bh,rfl,h,ag⟩:=AY h;have b:=x.rG H;refine AI 1 Z<|AB<|AO h ?_ ?_<;>intro ba h
  ·refine Av<|Ar<|AB<|A3<|AI 2 Z<|Bt 3 Z<|A1 h fun a4 h=>Be (ac.mono b) a.toNat (G1 a4) (AX a4) ?_;rintro bi _ e76t0 bb;obtain⟨_,_,rfl,rfl,⟨_,_,rfl,⟨e76v1,rfl,e76h1⟩,⟨_,_,rfl,rfl,⟨_,_,rfl,⟨e76v3,rfl,e76h3⟩,⟨_,_,rfl,rfl,⟨_,_,rfl,rfl,⟨e76v6,rfl,e76h6⟩⟩⟩⟩⟩⟩⟩:=Go.E.Rp.HE e76t0;refine Ai (Cj bb (An x))<|Aw h fun u bc h=>Fb Z Z (RN (a0:=(a0.getD a.toNat Qq2)) (a1:=(Qv.mk l m o p q s t)) (O:=(Ha [] O)) hH x e76h1 e76h3 e76h6 (aq.mono b) (ar.mono b) (au.mono b) bc) ?_;rintro _ bj ⟨av,aw,ax,rfl,y,z,ad,ae,af⟩;refine Ac<|B3 h ?_ ?_<;>intro bd h
   ·have ah:=y.rG H;refine AI 2 Z<|Ay<|Ax<|Ao<|BN ?_;have h:=Ce.out h ag;refine Ax<|BI ?_
    cases h
    refine Al Z ?_;have hT:=hT.trans z;exact⟨av,aw,ax,Z,y,hT,(ad.mono ah),(ae.mono ah),(af.mono ah)⟩
   refine Av<|A2<|Ar ?_;have aa:=y.rG H;refine As<|A1 h fun be h=>Ai (A6 be)<|Aq 1 Z<|AL ?_;have h:=Ce.again h ag;have b:=b.trans (Aa z);have hT:=hT.trans z;refine AM (u.2.f.1,u.2.f.2.1,u.2.f.2.2.1,u.2.f.2.2.2.1,u.2.f.2.2.2.2.1,u.2.f.2.2.2.2.2.1,u.2.f.2.2.2.2.2.2,(a+1),av,aw,ax,a3) Z ⟨y,((ac.mono b).mono aa),(ad.mono aa),(ae.mono aa),(af.mono aa),hT,h⟩
  refine B2<|AD<|A5 ?_;have h:=Ce.out h ag;refine Bf<|AA (l,m,o,p,q,s,t,d,e,g) ⟨x,(aq.mono b),(ar.mono b),(au.mono b),hT,h⟩
 rintro⟨aj,ak,al,am,an,ao,ap,i,j,k⟩ bg ⟨a5,a6,a7,a8,hT,h⟩;have ai:=a5.rG H;refine AI 1 Z<|Ay ?_
 cases h
 refine Al Z ⟨i,j,k,Z,a5,hT,(a6.mono ai),(a7.mono ai),(a8.mono ai)⟩
def AV(a0:List Qv)(a1_c0:Qv):Option (Bool×Qv):=
 Qq4 (Cf a0 a1_c0) (fun a=>some (decide (0<=a.1),a.2))
theorem Bw{a w:World}{H:PH}(hH:Le H (hp a))(O:List BS)(a0:List Qv)(a1_c0:Qv){va0:Value}{ba1_c0:Nat}{va1_c0_1 va1_c0_3 va1_c0_6:Value}(hL:Bb a (Ha [.box ba1_c0 [No a1_c0.f.1,va1_c0_1,AcB a1_c0.f.2.2.1,va1_c0_3,No a1_c0.f.2.2.2.2.1,No a1_c0.f.2.2.2.2.2.1,va1_c0_6] 26] O) w)(p:AJ .B1 (gz H a w (Ha [.box ba1_c0 [No a1_c0.f.1,va1_c0_1,AcB a1_c0.f.2.2.1,va1_c0_3,No a1_c0.f.2.2.2.2.1,No a1_c0.f.2.2.2.2.2.1,va1_c0_6] 26] O)) va0 a0)(ha1_c0_1:AJ .st (gz H a w (Ha [.box ba1_c0 [No a1_c0.f.1,va1_c0_1,AcB a1_c0.f.2.2.1,va1_c0_3,No a1_c0.f.2.2.2.2.1,No a1_c0.f.2.2.2.2.2.1,va1_c0_6] 26] O)) va1_c0_1 (a1_c0.f.2.1))(ha1_c0_3:AJ .byte (gz H a w (Ha [.box ba1_c0 [No a1_c0.f.1,va1_c0_1,AcB a1_c0.f.2.2.1,va1_c0_3,No a1_c0.f.2.2.2.2.1,No a1_c0.f.2.2.2.2.2.1,va1_c0_6] 26] O)) va1_c0_3 (a1_c0.f.2.2.2.1))(ha1_c0_6:AJ .B1 (gz H a w (Ha [.box ba1_c0 [No a1_c0.f.1,va1_c0_1,AcB a1_c0.f.2.2.1,va1_c0_3,No a1_c0.f.2.2.2.2.1,No a1_c0.f.2.2.2.2.2.1,va1_c0_6] 26] O)) va1_c0_6 (a1_c0.f.2.2.2.2.2.2)){r:Bool×Qv}(h:AV a0 a1_c0=some r):
  Ok prog 155 [va0,.func (.func 156) #[] #[Acy ba1_c0]] w (fun v w'=>∃ (c:Value) (d:Value) (e:Value),v=.bool r.1/\Bb a (Ha [.box ba1_c0 [No r.2.f.1,c,AcB r.2.f.2.2.1,d,No r.2.f.2.2.2.2.1,No r.2.f.2.2.2.2.2.1,e] 26] O) w'/\Le (fz w (Ha [.box ba1_c0 [No a1_c0.f.1,va1_c0_1,AcB a1_c0.f.2.2.1,va1_c0_3,No a1_c0.f.2.2.2.2.1,No a1_c0.f.2.2.2.2.2.1,va1_c0_6] 26] O)) (fz w' (Ha [.box ba1_c0 [No r.2.f.1,c,AcB r.2.f.2.2.1,d,No r.2.f.2.2.2.2.1,No r.2.f.2.2.2.2.2.1,e] 26] O))/\AJ .st (gz H a w' (Ha [.box ba1_c0 [No r.2.f.1,c,AcB r.2.f.2.2.1,d,No r.2.f.2.2.2.2.1,No r.2.f.2.2.2.2.2.1,e] 26] O)) c (r.2.f.2.1)/\AJ .byte (gz H a w' (Ha [.box ba1_c0 [No r.2.f.1,c,AcB r.2.f.2.2.1,d,No r.2.f.2.2.2.2.1,No r.2.f.2.2.2.2.2.1,e] 26] O)) d (r.2.f.2.2.2.1)/\AJ .B1 (gz H a w' (Ha [.box ba1_c0 [No r.2.f.1,c,AcB r.2.f.2.2.1,d,No r.2.f.2.2.2.2.1,No r.2.f.2.2.2.2.2.1,e] 26] O)) e (r.2.f.2.2.2.2.2.2)):=by
 refine Dp (n:=9) [(0,va0),(1,.func (.func 156) #[] #[Acy ba1_c0])] func155 Z Z Z Z ?_;have hT:=Le.refl (fz w (Ha [.box ba1_c0 [No a1_c0.f.1,va1_c0_1,AcB a1_c0.f.2.2.1,va1_c0_3,No a1_c0.f.2.2.2.2.1,No a1_c0.f.2.2.2.2.2.1,va1_c0_6] 26] O));have b:=hL.rG H;refine AI 1 Z<|Bt 2 Z<|Aw h fun t q h=>EJ (JG (a0:=a0) (a1_c0:=a1_c0) (O:=(Ha [] O)) hH hL (p.mono b) (ha1_c0_1.mono b) (ha1_c0_3.mono b) (ha1_c0_6.mono b) q) ?_;rintro _ u ⟨k,l,m,rfl,s,o,g,i,j⟩;refine A7 2 Z<|Ay ?_
 cases h
 refine Al Z ?_;have hT:=hT.trans o;exact⟨k,l,m,Z,s,hT,g,i,j⟩
def Cr(a0:Qv)(d:AcC)(o:AcC)(e g b c a:Int):Option Bool:=
 if((decide ((a0.f.2.1.length:Int)<b))||(decide (c<(a0.f.2.1.length:Int)))) then(if((decide ((a0.f.2.1.length:Int)<b))||(decide (c<(a0.f.2.1.length:Int)))) then some false else(if !((decide (a0.f.1=8))||(decide (a0.f.1=9))) then some true else Qq4 (AV a0.f.2.2.2.2.2.2 a0) (fun h=>some (!h.1)))) else(if(a0.f.2.2.2.2.2.2.length:Int)<a then(if(a0.f.2.2.2.2.2.2.length:Int)<a then some false else(if !((decide (a0.f.1=8))||(decide (a0.f.1=9))) then some true else Qq4 (AV a0.f.2.2.2.2.2.2 a0) (fun i=>some (!i.1)))) else(if(bif !((decide (a0.f.1=8))||(decide (a0.f.1=9))) then decide (a<(a0.f.2.2.2.2.2.2.length:Int)) else false) then(if(bif !((decide (a0.f.1=8))||(decide (a0.f.1=9))) then decide (a<(a0.f.2.2.2.2.2.2.length:Int)) else false) then some false else(if !((decide (a0.f.1=8))||(decide (a0.f.1=9))) then some true else Qq4 (AV a0.f.2.2.2.2.2.2 a0) (fun j=>some (!j.1)))) else(if d=a0.f.2.2.1 then(if e=a0.f.2.2.2.2.1 then(if g=a0.f.2.2.2.2.2.1 then(if(o.length:Int)=(a0.f.2.2.2.1.length:Int) then(if !((decide (a0.f.1=8))||(decide (a0.f.1=9))) then some true else Qq4 (AV a0.f.2.2.2.2.2.2 a0) (fun k=>some (!k.1))) else some false) else(if g=a0.f.2.2.2.2.2.1 then(if !((decide (a0.f.1=8))||(decide (a0.f.1=9))) then some true else Qq4 (AV a0.f.2.2.2.2.2.2 a0) (fun l=>some (!l.1))) else some false)) else(if e=a0.f.2.2.2.2.1 then(if !((decide (a0.f.1=8))||(decide (a0.f.1=9))) then some true else Qq4 (AV a0.f.2.2.2.2.2.2 a0) (fun m=>some (!m.1))) else some false)) else(if d=a0.f.2.2.1 then(if !((decide (a0.f.1=8))||(decide (a0.f.1=9))) then some true else Qq4 (AV a0.f.2.2.2.2.2.2 a0) (fun n=>some (!n.1))) else some false))))
def J7(a0:Qv):Option Bool:=
 if a0.f.1=1 then(Cr a0) ([]:AcC) ([]) (0:Int) (0:Int) (1:Int) (1:Int) (0:Int) else(if a0.f.1=2 then(Cr a0) ([]:AcC) ([]) (0:Int) (0:Int) (2:Int) (16:Int) (0:Int) else(if a0.f.1=3 then(Cr a0) ([]:AcC) ([]) a0.f.2.2.2.2.1 (0:Int) (2:Int) (2:Int) (0:Int) else(if a0.f.1=4 then(Cr a0) ([]:AcC) a0.f.2.2.2.1 (0:Int) (0:Int) (0:Int) (0:Int) (0:Int) else(if a0.f.1=5 then(Cr a0) a0.f.2.2.1 ([]) (0:Int) (0:Int) (0:Int) (0:Int) (0:Int) else(if a0.f.1=6 then(Cr a0) a0.f.2.2.1 ([]) a0.f.2.2.2.2.1 a0.f.2.2.2.2.2.1 (0:Int) (0:Int) (0:Int) else(if a0.f.1=7 then(Cr a0) a0.f.2.2.1 a0.f.2.2.2.1 (0:Int) (0:Int) (0:Int) (0:Int) (0:Int) else(if a0.f.1=10 then(Cr a0) ([]:AcC) ([]) (0:Int) (0:Int) (0:Int) (0:Int) (1:Int) else(Cr a0) ([]:AcC) ([]) (0:Int) (0:Int) (0:Int) (0:Int) (2:Int))))))))
section
variable(w:World)(H:PH)(hH:Le H (hp w)) include hH
theorem Tk{a0:Qv}{b e c:Value}(ae:AJ .st H b (a0.f.2.1))(o:AJ .byte H e (a0.f.2.2.2.1))(g:AJ .B1 H c (a0.f.2.2.2.2.2.2)){r:Bool}(h:J7 a0=some r):
  Qqv 101 [.agg #[No a0.f.1,b,AcB a0.f.2.2.1,e,No a0.f.2.2.2.2.1,No a0.f.2.2.2.2.2.1,c]] w (fun v w'=>v=.bool r):=by
 refine Az 123 [(0,.agg #[No a0.f.1,b,AcB a0.f.2.2.1,e,No a0.f.2.2.2.2.1,No a0.f.2.2.2.2.2.1,c])] func101 Z fun hL=>Aj<|C9 (t:=26) Z Z hL fun w1 b1 ax eb _=>A7 1 Z<|Aj<|Ai (Ae Z Ajl Z CO.e)<|Ai (Ag 0 Z ax Z)<|Ai (Ae Z Ajl Z Na.e)<|Ai (Ag 0 Z ax Z)<|Ai (Ae Z Ajl Z Mh.e)<|Ai (Ag 0 Z ax Z)<|Ai (AT (fun _=>YL _ _ ae.one _ g.one _))<|A9 B7.e Z ax fun w2 b2 dc ec _=>Af 0 Z dc Z (a:=(Bn Z (Bn ae.one (Bn Z (Bn Z (Bn Z (Bn Z (Bn g.one Ky)))))))) fun w3 ag ed=>Ac<|AI 2 Z<|AI 1 Z ?_
 refine By (AcC×AcC×Int×Int×Int×Int×Int×Value) (fun⟨k,ay,l,m,ak,al,ao,d⟩=>[(1,(Acy b1)),(3,(Acy b2)),(4,No ak),(5,No al),(6,No ao)]) (fun⟨k,ay,l,m,ak,al,ao,d⟩ wr=>FI w [.box b2 [No a0.f.1,b,AcB k,d,No l,No m,c] 26,.box b1 [No a0.f.1,b,AcB a0.f.2.2.1,e,No a0.f.2.2.2.2.1,No a0.f.2.2.2.2.2.1,c] 26] wr fun Oz=>AJ .byte (gz H w wr Oz) d ay/\(Cr a0) k ay l m ak al ao=some r) ?_ ?_
 ·refine Aj<|Ai (Ae Z Ajl Z CO.e)<|Ai (Ag 1 Z ag Z)<|Ac<|A3<|AI 2 Z<|AO h ?_ ?_<;>intro ca h
  ·refine As<|Aq 2 Z<|AL<|A2<|AA (([]:AcC),[],0,0,1,1,0,AaB) ⟨ag,(AJ.nil _ _),h⟩
  refine AI 2 Z<|AO h ?_ ?_<;>intro cb h
  ·refine As<|Aq 2 Z<|AL<|A2<|AA (([]:AcC),[],0,0,2,16,0,AaB) ⟨ag,(AJ.nil _ _),h⟩
  refine AI 2 Z<|AO h ?_ ?_<;>intro cc h
  ·refine Qk (Qqz 0 5 (.tail 5)) mixed Qqb (fun eu cd=>?_);have a2:=ag.call cd;refine CD Z (Ae Z Ajl Z CO.e) Z<|CD Z (Ag 1 Z a2 Z) Z<|D0 2 Z<|CD Z (Ae Z Ajl Z CO.e) Z<|BU (fun ev ce=>?_);have cf:=a2.call ce;refine B8 0 Z Z cf Z Z fun ew cg d7=>AL<|A2<|AA (([]:AcC),[],a0.f.2.2.2.2.1,0,2,2,0,AaB) ⟨cg,(AJ.nil _ _),h⟩
  refine AI 2 Z<|AO h ?_ ?_<;>intro ch h
  ·refine As<|Ai (Ae Z Ajl Z IF.e)<|Ai (Ag 1 Z ag Z)<|Ai (Ae Z Ajl Z IF.e)<|B8 0 Z o.one ag Z Z fun ex ci d8=>AL<|A2<|AA (([]:AcC),a0.f.2.2.2.1,0,0,0,0,0,e) ⟨ci,(o.mono  Ah),h⟩
  refine AI 2 Z<|AO h ?_ ?_<;>intro cj h
  ·refine As<|Ai (Ae Z Ajl Z HC.e)<|Ai (Ag 1 Z ag Z)<|Ai (Ae Z Ajl Z HC.e)<|B8 0 Z Z ag Z Z fun ey ck d9=>AL<|A2<|AA (a0.f.2.2.1,[],0,0,0,0,0,AaB) ⟨ck,(AJ.nil _ _),h⟩
  refine AI 2 Z<|AO h ?_ ?_<;>intro cl h
  ·refine Kk (Jw (O0 Nq)) (fun z0 z=>Le (gz H w z0 [.box b2 [No a0.f.1,b,(AcB []),AaB,No 0,No 0,c] 26,.box b1 [No a0.f.1,b,AcB a0.f.2.2.1,e,No a0.f.2.2.2.2.1,No a0.f.2.2.2.2.2.1,c] 26]) (hp z)/\z.heap[b1]? = some (.cells [No a0.f.1,b,AcB a0.f.2.2.1,e,No a0.f.2.2.2.2.1,No a0.f.2.2.2.2.2.1,c].toArray 26 (0,0))) mixed Z (fun af ez cn=>?_);have ap:=ag.call cn;have ai:=ap.rG H;refine Nt ⟨ai.trans (An ap),ap.at (i:=1) Z⟩ fun kI88=>A8 0 af kI88 Z (fun _ _=>Ae Z Ajl Z HC.e) Z<|A8 1 af kI88 Z (fun _ hI=>KC Z hI.2 Z) Z<|A8 2 af kI88 Z (fun _ _=>Ae Z Ajl Z CO.e) Z<|A8 3 af kI88 Z (fun _ hI=>KC Z hI.2 Z) Z<|A8 4 af kI88 Z (fun _ _=>Ae Z Ajl Z CO.e) Z<|A8 5 af kI88 Z (fun _ hI=>KC Z hI.2 Z) Z<|A8 6 af kI88 Z (fun _ _=>Ae Z Ajl Z HC.e) Z<|FR 7 Z ?_
   refine B8 0 Z Z ap Z Z ?_;intro e0 av a4;have ai:=ai.trans (Aa a4);refine AW ⟨ai.trans (An av),av.at (i:=1) Z⟩ fun kI90=>A8 8 af kI90 Z (fun _ _=>Ae Z Ajl Z CO.e) Z<|FR 9 Z<|B8 0 Z Z av Z Z ?_;intro e1 aw a5;have ai:=ai.trans (Aa a5);refine AW ⟨ai.trans (An aw),aw.at (i:=1) Z⟩ fun kI92=>A8 10 af kI92 Z (fun _ _=>Ae Z Ajl Z CO.e) Z<|FR 11 Z<|B8 0 Z Z aw Z Z fun e2 co ea=>GG<|EK<|A2<|AA (a0.f.2.2.1,[],a0.f.2.2.2.2.1,a0.f.2.2.2.2.2.1,0,0,0,AaB) ⟨co,(AJ.nil _ _),h⟩
  refine AI 2 Z<|AO h ?_ ?_<;>intro cp h
  ·refine Kk (Jw (O0 Nq)) (fun z0 z=>Le (gz H w z0 [.box b2 [No a0.f.1,b,(AcB []),AaB,No 0,No 0,c] 26,.box b1 [No a0.f.1,b,AcB a0.f.2.2.1,e,No a0.f.2.2.2.2.1,No a0.f.2.2.2.2.2.1,c] 26]) (hp z)/\z.heap[b1]? = some (.cells [No a0.f.1,b,AcB a0.f.2.2.1,e,No a0.f.2.2.2.2.1,No a0.f.2.2.2.2.2.1,c].toArray 26 (0,0))) mixed Z (fun an e3 cq=>?_);have aq:=ag.call cq;have ar:=aq.rG H;refine Nt ⟨ar.trans (An aq),aq.at (i:=1) Z⟩ fun kI100=>A8 0 an kI100 Z (fun _ _=>Ae Z Ajl Z HC.e) Z<|A8 1 an kI100 Z (fun _ hI=>KC Z hI.2 Z) Z<|A8 2 an kI100 Z (fun _ _=>Ae Z Ajl Z IF.e) Z<|A8 3 an kI100 Z (fun _ hI=>KC Z hI.2 Z) Z<|A8 4 an kI100 Z (fun _ _=>Ae Z Ajl Z HC.e) Z<|FR 5 Z<|B8 0 Z Z aq Z Z ?_;intro ee au a3;have ar:=ar.trans (Aa a3);refine AW ⟨ar.trans (An au),au.at (i:=1) Z⟩ fun kI102=>?_
   refine A8 6 an kI102 Z (fun _ _=>Ae Z Ajl Z IF.e) Z<|FR 7 Z<|B8 0 Z o.one au Z Z fun ef a6 dd=>GG<|EK<|A2<|AA (a0.f.2.2.1,a0.f.2.2.2.1,0,0,0,0,0,e) ⟨a6,(o.mono  Ah),h⟩
  refine AI 2 Z<|AO h ?_ ?_<;>intro a7 h
  ·refine As<|Aq 1 Z<|AL<|A2<|AA (([]:AcC),[],0,0,0,0,1,AaB) ⟨ag,(AJ.nil _ _),h⟩
  refine As<|Aq 1 Z<|AL<|A2<|AA (([]:AcC),[],0,0,0,0,2,AaB) ⟨ag,(AJ.nil _ _),h⟩
 rintro⟨k,ay,l,m,ak,al,ao,d⟩ aj ⟨a,a8,h⟩;refine Aj<|Ai (Ae Z Ajl Z Mh.e)<|Ai (Ag 1 Z a Z)<|Ai (Bk g)<|A7 1 Z<|Aj<|Ai (Ae Z Ajl Z CO.e)<|Ai (Ag 1 Z a Z)<|Aq 2 Z<|ON 4 68 (.bool ((decide (a0.f.1=8))||(decide (a0.f.1=9)))) (fun az=>?_) ?_
 ·refine IG (s:=64) Z (fun p=>?_) (fun p=>?_)
  ·iterate 3 refine Au p ?_
   refine Ai (AK p Z)<|az.to 3 (Wh p) Z Z
  refine Ab p<|Ai (Ae Z Ajl Z CO.e)<|Ab p<|Ai (Ag 1 Z a Z)<|Ab p<|Ai (Am Z)<|Ai (AS p Z)<|az.to 3 (Wi p) Z Z
 refine A7 1 Z<|AB<|A3<|AB<|Aj<|Ai (Ae Z Ajl Z Na.e)<|Ai (Ag 1 Z a Z)<|Ai (Bk ae)<|Aq 3 Z<|ON 6 81 (.bool ((decide ((a0.f.2.1.length:Int)<ak))||(decide (al<(a0.f.2.1.length:Int))))) (fun a1=>?_) ?_
 ·refine IG (s:=75) Z (fun j=>?_) (fun j=>?_)
  ·iterate 5 refine Au j ?_
   refine Ai (AK j Z)<|a1.to 5 (Wh j) Z Z
  refine Ab j<|Ai (Ae Z Ajl Z Na.e)<|Ab j<|Ai (Ag 1 Z a Z)<|Ab j<|Ai (Bk ae)<|Ab j<|Ai (Am Z)<|Ab j<|Ai (Am Z)<|Ai (AS j Z)<|a1.to 5 (Wi j) Z Z
 refine A7 1 Z<|B3 h ?_ ?_<;>intro a9 h
 ·refine Av<|Ar<|B3 h ?_ ?_<;>intro ba h
  ·refine AI 1 Z<|Ay<|Ax<|Ao ?_
   cases h
   refine Al Z ⟨a.ext,Z⟩
  refine Av<|A2<|Ar<|Bt 3 Z<|GV 116 h ?_ ?_<;>intro u h
  ·iterate 5 refine Au u ?_
   refine Ai (AK u Z)<|A7 1 Z<|Ay ?_
   cases h
   refine Al Z ⟨a.ext,Z⟩
  refine Ab u<|Ai (Ae Z Ajl Z Mh.e)<|Ab u<|Ai (Ag 1 Z a Z)<|Ab u<|Ai (Am Z)<|Ab u ?_;have bb:Bb w [.box b1 [No a0.f.1,b,AcB a0.f.2.2.1,e,No a0.f.2.2.2.2.1,No a0.f.2.2.2.2.2.1,c] 26,.box b2 [No a0.f.1,b,AcB k,d,No l,No m,c] 26] aj:=a.Cy [1] Z;refine Aw h fun eg bc h=>EJ (Bw hH ([.box b2 [No a0.f.1,b,AcB k,d,No l,No m,c] 26]) a0.f.2.2.2.2.2.2 a0 bb (g.mono  Ah) (ae.mono  Ah) (o.mono  Ah) (g.mono  Ah) bc) ?_;rintro _ eh ⟨de,df,dg,rfl,bd,dh,cr,cs,ct⟩;refine Ab u<|Ai (Am Z)<|Ai (AS u Z)<|A7 1 Z<|Ay ?_
  cases h
  refine Al Z ⟨bd.ext,Z⟩
 refine AI 4 Z<|AO h ?_ ?_<;>intro be h
 ·refine Av<|Ar<|AO h ?_ ?_<;>intro bf h
  ·refine AI 1 Z<|Ay<|Ax<|Ao ?_
   cases h
   refine Al Z ⟨a.ext,Z⟩
  refine Av<|A2<|Ar<|Bt 3 Z<|GV 116 h ?_ ?_<;>intro x h
  ·iterate 5 refine Au x ?_
   refine Ai (AK x Z)<|A7 1 Z<|Ay ?_
   cases h
   refine Al Z ⟨a.ext,Z⟩
  refine Ab x<|Ai (Ae Z Ajl Z Mh.e)<|Ab x<|Ai (Ag 1 Z a Z)<|Ab x<|Ai (Am Z)<|Ab x ?_;have bg:Bb w [.box b1 [No a0.f.1,b,AcB a0.f.2.2.1,e,No a0.f.2.2.2.2.1,No a0.f.2.2.2.2.2.1,c] 26,.box b2 [No a0.f.1,b,AcB k,d,No l,No m,c] 26] aj:=a.Cy [1] Z;refine Aw h fun ei bh h=>EJ (Bw hH ([.box b2 [No a0.f.1,b,AcB k,d,No l,No m,c] 26]) a0.f.2.2.2.2.2.2 a0 bg (g.mono  Ah) (ae.mono  Ah) (o.mono  Ah) (g.mono  Ah) bh) ?_;rintro _ ej ⟨di,dj,dk,rfl,bi,dl,cu,cv,cw⟩;refine Ab x<|Ai (Am Z)<|Ai (AS x Z)<|A7 1 Z<|Ay ?_
  cases h
  refine Al Z ⟨bi.ext,Z⟩
 refine Bt 3 Z<|Uo 3 2 Z Z Z Z Z Z Z<|A7 1 Z<|B3 h ?_ ?_<;>intro bj h
 ·refine Av<|Ar<|B3 h ?_ ?_<;>intro bk h
  ·refine AI 1 Z<|Ay<|Ax<|Ao ?_
   cases h
   refine Al Z ⟨a.ext,Z⟩
  refine Av<|A2<|Ar<|Bt 3 Z<|GV 116 h ?_ ?_<;>intro y h
  ·iterate 5 refine Au y ?_
   refine Ai (AK y Z)<|A7 1 Z<|Ay ?_
   cases h
   refine Al Z ⟨a.ext,Z⟩
  refine Ab y<|Ai (Ae Z Ajl Z Mh.e)<|Ab y<|Ai (Ag 1 Z a Z)<|Ab y<|Ai (Am Z)<|Ab y ?_;have bl:Bb w [.box b1 [No a0.f.1,b,AcB a0.f.2.2.1,e,No a0.f.2.2.2.2.1,No a0.f.2.2.2.2.2.1,c] 26,.box b2 [No a0.f.1,b,AcB k,d,No l,No m,c] 26] aj:=a.Cy [1] Z;refine Aw h fun ek bm h=>EJ (Bw hH ([.box b2 [No a0.f.1,b,AcB k,d,No l,No m,c] 26]) a0.f.2.2.2.2.2.2 a0 bl (g.mono  Ah) (ae.mono  Ah) (o.mono  Ah) (g.mono  Ah) bm) ?_;rintro _ el ⟨dm,dn,dp,rfl,bn,dq,cx,cy,cz⟩;refine Ab y<|Ai (Am Z)<|Ai (AS y Z)<|A7 1 Z<|Ay ?_
  cases h
  refine Al Z ⟨bn.ext,Z⟩
 refine Aj<|Ai (Ae Z Ajl Z HC.e)<|Ai (Ag 0 Z a Z)<|Ai (Ae Z Ajl Z HC.e)<|Ai (Ag 1 Z a Z)<|Ai (Sb Z Z)<|A7 1 Z<|CN h ?_ ?_<;>intro bo h
 ·refine Av<|Ar<|CN h ?_ ?_<;>intro bp h
  ·refine AI 1 Z<|Ay<|Ax<|Ao ?_
   cases h
   refine Al Z ⟨a.ext,Z⟩
  refine Av<|A2<|Ar<|Bt 3 Z<|GV 116 h ?_ ?_<;>intro aa h
  ·iterate 5 refine Au aa ?_
   refine Ai (AK aa Z)<|A7 1 Z<|Ay ?_
   cases h
   refine Al Z ⟨a.ext,Z⟩
  refine Ab aa<|Ai (Ae Z Ajl Z Mh.e)<|Ab aa<|Ai (Ag 1 Z a Z)<|Ab aa<|Ai (Am Z)<|Ab aa ?_;have bq:Bb w [.box b1 [No a0.f.1,b,AcB a0.f.2.2.1,e,No a0.f.2.2.2.2.1,No a0.f.2.2.2.2.2.1,c] 26,.box b2 [No a0.f.1,b,AcB k,d,No l,No m,c] 26] aj:=a.Cy [1] Z;refine Aw h fun em br h=>EJ (Bw hH ([.box b2 [No a0.f.1,b,AcB k,d,No l,No m,c] 26]) a0.f.2.2.2.2.2.2 a0 bq (g.mono  Ah) (ae.mono  Ah) (o.mono  Ah) (g.mono  Ah) br) ?_;rintro _ en ⟨dr,ds,dt,rfl,bs,du,c0,c1,c2⟩;refine Ab aa<|Ai (Am Z)<|Ai (AS aa Z)<|A7 1 Z<|Ay ?_
  cases h
  refine Al Z ⟨bs.ext,Z⟩
 refine Aj<|Ai (Ae Z Ajl Z CO.e)<|Ai (Ag 0 Z a Z)<|Ai (Ae Z Ajl Z CO.e)<|Ai (Ag 1 Z a Z)<|A7 2 Z<|CN h ?_ ?_<;>intro bt h
 ·refine Av<|Ar<|CN h ?_ ?_<;>intro bu h
  ·refine AI 1 Z<|Ay<|Ax<|Ao ?_
   cases h
   refine Al Z ⟨a.ext,Z⟩
  refine Av<|A2<|Ar<|Bt 3 Z<|GV 116 h ?_ ?_<;>intro ab h
  ·iterate 5 refine Au ab ?_
   refine Ai (AK ab Z)<|A7 1 Z<|Ay ?_
   cases h
   refine Al Z ⟨a.ext,Z⟩
  refine Ab ab<|Ai (Ae Z Ajl Z Mh.e)<|Ab ab<|Ai (Ag 1 Z a Z)<|Ab ab<|Ai (Am Z)<|Ab ab ?_;have bv:Bb w [.box b1 [No a0.f.1,b,AcB a0.f.2.2.1,e,No a0.f.2.2.2.2.1,No a0.f.2.2.2.2.2.1,c] 26,.box b2 [No a0.f.1,b,AcB k,d,No l,No m,c] 26] aj:=a.Cy [1] Z;refine Aw h fun eo bw h=>EJ (Bw hH ([.box b2 [No a0.f.1,b,AcB k,d,No l,No m,c] 26]) a0.f.2.2.2.2.2.2 a0 bv (g.mono  Ah) (ae.mono  Ah) (o.mono  Ah) (g.mono  Ah) bw) ?_;rintro _ ep ⟨dv,dw,dx,rfl,bx,dy,c3,c4,c5⟩;refine Ab ab<|Ai (Am Z)<|Ai (AS ab Z)<|A7 1 Z<|Ay ?_
  cases h
  refine Al Z ⟨bx.ext,Z⟩
 refine Aj<|Ai (Ae Z Ajl Z CO.e)<|Ai (Ag 0 Z a Z)<|Ai (Ae Z Ajl Z CO.e)<|Ai (Ag 1 Z a Z)<|A7 2 Z<|CN h ?_ ?_<;>intro bz h
 ·refine Av<|Ar<|CN h ?_ ?_<;>intro b0 h
  ·refine AI 1 Z<|Ay<|Ax<|Ao ?_
   cases h
   refine Al Z ⟨a.ext,Z⟩
  refine Av<|A2<|Ar<|Bt 3 Z<|GV 116 h ?_ ?_<;>intro ac h
  ·iterate 5 refine Au ac ?_
   refine Ai (AK ac Z)<|A7 1 Z<|Ay ?_
   cases h
   refine Al Z ⟨a.ext,Z⟩
  refine Ab ac<|Ai (Ae Z Ajl Z Mh.e)<|Ab ac<|Ai (Ag 1 Z a Z)<|Ab ac<|Ai (Am Z)<|Ab ac ?_;have b3:Bb w [.box b1 [No a0.f.1,b,AcB a0.f.2.2.1,e,No a0.f.2.2.2.2.1,No a0.f.2.2.2.2.2.1,c] 26,.box b2 [No a0.f.1,b,AcB k,d,No l,No m,c] 26] aj:=a.Cy [1] Z;refine Aw h fun eq b4 h=>EJ (Bw hH ([.box b2 [No a0.f.1,b,AcB k,d,No l,No m,c] 26]) a0.f.2.2.2.2.2.2 a0 b3 (g.mono  Ah) (ae.mono  Ah) (o.mono  Ah) (g.mono  Ah) b4) ?_;rintro _ er ⟨dz,d0,d1,rfl,b5,d2,c6,c7,c8⟩;refine Ab ac<|Ai (Am Z)<|Ai (AS ac Z)<|A7 1 Z<|Ay ?_
  cases h
  refine Al Z ⟨b5.ext,Z⟩
 refine As<|Ai (Ae Z Ajl Z IF.e)<|Ai (Ag 0 Z a Z)<|Ai (Bk a8)<|Ai (Ae Z Ajl Z IF.e)<|Ai (Ag 1 Z a Z)<|Ai (Bk o)<|Aq 2 Z<|AL<|Ar<|CN h ?_ ?_<;>intro b6 h
 ·refine AI 1 Z<|Ay<|Ax<|Ao ?_
  cases h
  refine Al Z ⟨a.ext,Z⟩
 refine Av<|A2<|Ar<|Bt 3 Z<|GV 116 h ?_ ?_<;>intro ad h
 ·iterate 5 refine Au ad ?_
  refine Ai (AK ad Z)<|A7 1 Z<|Ay ?_
  cases h
  refine Al Z ⟨a.ext,Z⟩
 refine Ab ad<|Ai (Ae Z Ajl Z Mh.e)<|Ab ad<|Ai (Ag 1 Z a Z)<|Ab ad<|Ai (Am Z)<|Ab ad ?_;have b7:Bb w [.box b1 [No a0.f.1,b,AcB a0.f.2.2.1,e,No a0.f.2.2.2.2.1,No a0.f.2.2.2.2.2.1,c] 26,.box b2 [No a0.f.1,b,AcB k,d,No l,No m,c] 26] aj:=a.Cy [1] Z;refine Aw h fun es b8 h=>EJ (Bw hH ([.box b2 [No a0.f.1,b,AcB k,d,No l,No m,c] 26]) a0.f.2.2.2.2.2.2 a0 b7 (g.mono  Ah) (ae.mono  Ah) (o.mono  Ah) (g.mono  Ah) b8) ?_;rintro _ et ⟨d3,d4,d5,rfl,b9,d6,c9,da,db⟩;refine Ab ad<|Ai (Am Z)<|Ai (AS ad Z)<|A7 1 Z<|Ay ?_
 cases h
 refine Al Z ⟨b9.ext,Z⟩
def FK(a0:Qv)(a:Bool):Option Int:=
 if a then some (4) else(if((decide (a0.f.1=4))&&(decide ((a0.f.2.2.2.1.length:Int)=0))) then some (10) else(if 64<(a0.f.2.2.2.1.length:Int) then some (3) else some (0)))
def FL(a0:Qv):Option Int:=
 Qq4 (Hi a0.f.2.2.1) (fun a=>if a.1=0/\a.2=0 then(if((decide (a0.f.1=3))&&((decide (a0.f.2.2.2.2.1<1))||(decide (2048<a0.f.2.2.2.2.1)))) then(FK a0) ((decide (a0.f.1=3))&&((decide (a0.f.2.2.2.2.1<1))||(decide (2048<a0.f.2.2.2.2.1)))) else(FK a0) ((decide (a0.f.1=6))&&(decide (a0.f.2.2.2.2.2.1<a0.f.2.2.2.2.1)))) else some (a.1))
def Ef(a0:Qv):Int->Option ((Int) ⊕ (Int)):=fun a=>
 if a<(a0.f.2.1.length:Int) then AN (0<=a/\a<(a0.f.2.1.length:Int)) (Qq4 (Hv (a0.f.2.1.getD a.toNat Qq2)) (fun b=>if b.1=0/\b.2=0 then AN (Bz (a+1)) (some (Sum.inl (a+1))) else Qq7 Sum.inr (some (b.1)))) else Qq7 Sum.inr ((FL a0))
def II(a0:Qv)(s:Int):Option Int:=Go.L.run (Ef a0) s
def H4(a0:Qv):Option Int:=
 if((decide (a0.f.1<1))||(decide (10<a0.f.1))) then some (5) else Qq4 (J7 a0) (fun a=>if !a then some (6) else(II a0) (0:Int))
theorem Rm(hU:Ge H){a0:Qv}{j o p:Value}(y:AJ .st H j (a0.f.2.1))(z:AJ .byte H o (a0.f.2.2.2.1))(ao:AJ .B1 H p (a0.f.2.2.2.2.2.2)){r:Int}(h:H4 a0=some r):
  Qqv 62 [.agg #[No a0.f.1,j,AcB a0.f.2.2.1,o,No a0.f.2.2.2.2.1,No a0.f.2.2.2.2.2.1,p]] w (fun v w'=>v=No r):=by
 refine Az 80 [(0,.agg #[No a0.f.1,j,AcB a0.f.2.2.1,o,No a0.f.2.2.2.2.1,No a0.f.2.2.2.2.2.1,p])] func62 Z fun hL=>Aj<|C9 (t:=26) Z Z hL fun w1 b1 q bg _=>A7 1 Z<|AB<|Aj<|Ai (Ae Z Ajl Z CO.e)<|Ai (Ag 0 Z q Z)<|Aq 2 Z<|ON 4 14 (.bool ((decide (a0.f.1<1))||(decide (10<a0.f.1)))) (fun am=>?_) ?_
 ·refine IG (s:=10) Z (fun l=>?_) (fun l=>?_)
  ·iterate 3 refine Au l ?_
   refine Ai (AK l Z)<|am.to 3 (Wh l) Z Z
  refine Ab l<|Ai (Ae Z Ajl Z CO.e)<|Ab l<|Ai (Ag 0 Z q Z)<|Ab l<|Ai (Am Z)<|Ai (AS l Z)<|am.to 3 (Wi l) Z Z
 refine Ac<|B3 h ?_ ?_<;>intro a6 h
 ·refine AI 1 Z<|Ay<|Ao ?_
  cases h
  refine Al Z ⟨q.ext,Z⟩
 refine Av<|Ar<|AB<|Aj<|Ai (A4 0 Z B7.e q Z)<|Aw h fun x6 a7 h=>AE q (Tk (a0:=a0) _ _ (An q) (y.mono  Ah) (z.mono  Ah) (ao.mono  Ah) a7) fun w7 bn ae bh=>A7 1 Z<|B3 h ?_ ?_<;>intro a8 h
 ·refine AI 1 Z<|Ay<|Ao ?_
  cases h
  refine Al Z ⟨ae.ext,Z⟩
 refine Av<|Ar<|By Unit (fun(_:Unit)=>[(1,(Acy b1))]) (fun(_:Unit) wr=>Bb w [.box b1 [No a0.f.1,j,AcB a0.f.2.2.1,o,No a0.f.2.2.2.2.1,No a0.f.2.2.2.2.2.1,p] 26] wr/\(FL a0)=some r) ?_ ?_
 ·refine Aj<|Ai (Ae Z Ajl Z Na.e)<|Ai (Ag 0 Z ae Z)<|Ai (Bk y)<|A7 1 Z<|A3 ?_;obtain⟨af,h⟩:=Ba h;refine B5 (Int×Nat) (fun⟨c,n⟩=>[(1,(Acy b1)),(19,j),(20,No (a0.f.2.1.length:Int)),(21,No c)]) (fun⟨c,n⟩ wr=>Bb w [.box b1 [No a0.f.1,j,AcB a0.f.2.2.1,o,No a0.f.2.2.2.2.1,No a0.f.2.2.2.2.2.1,p] 26] wr/\H8 (Ef a0) n c=some r) (fun⟨c,n⟩=>n) (0,af) Z ⟨ae,h⟩ ?_;rintro⟨c,nn58⟩ bi ⟨u,h⟩;obtain⟨af,bo,rfl,h,aa⟩:=AY h;refine AI 1 Z<|AB<|AO h ?_ ?_<;>intro ap h
  ·refine Av<|Ar<|AB<|A3<|Aj<|A1 h fun ag h=>Be y c.toNat (G1 ag) (AX ag) ?_;rintro bp _ rfl aq;refine Ai (Bl aq (hH.trans u.arg))<|A7 1 Z<|Bt 1 Z<|Aw h fun bq ar h=>AE u (JY _ _ (An u) (hU.mono  Ah) ar) fun br bj au ba=>A9 AF.e Z au fun bs bt av bb _=>Af 0 Z av Z fun bu x bc=>Ac<|Aj<|Ai (A4 0 Z AF.e x Z)<|Ai (AT (fun _=>BM _))<|Ai (JJ Jg (MR _ _ _ _))<|Ac<|CN h ?_ ?_<;>intro aw h
   ·refine Aj<|Ai (Ae Z Aje Z CO.e)<|Ai (Ag 0 Z x Z)<|A7 1 Z<|Ay<|Ax<|Ao<|BN ?_;have h:=Ce.out h aa;refine Ax<|BI ?_
    cases h
    refine Al Z ⟨x.ext,Z⟩
   refine Av<|A2<|Ar<|As<|A1 h fun ax h=>Ai (A6 ax)<|Aq 1 Z<|AL ?_;have ay:=x.AQ (i:=0) Z;have h:=Ce.again h aa;refine AM (_,_) Z ⟨ay,h⟩
  refine B2<|AD<|A5 ?_;have h:=Ce.out h aa;refine Bf<|AA () ⟨u,h⟩
 rintro _ bk ⟨ab,h⟩;refine AB<|Aj<|Ai (Ae Z Ajl Z HC.e)<|Ai (Ag 0 Z ab Z)<|Aw h fun an az h=>AE ab (KR _ _ (An ab) az) fun bv bl a1 bd=>A9 AF.e Z a1 fun bw a9 a2 be _=>Af 0 Z a2 Z fun bx d bf=>Ac<|Aj<|Ai (A4 0 Z AF.e d Z)<|Ai (AT (fun _=>BM _))<|Ai (JJ Jg (MR _ _ _ _))<|Ac<|CN h ?_ ?_<;>intro a3 h
 ·refine Aj<|Ai (Ae Z Aje Z CO.e)<|Ai (Ag 0 Z d Z)<|A7 1 Z<|Ay<|Ao ?_
  cases h
  refine Al Z ⟨d.ext,Z⟩
 refine Av<|Ar<|AB<|A3<|By Bool (fun m=>[(1,(Acy b1)),(41,.bool m)]) (fun m wr=>Bb w [.box a9 [No an.1,No an.2] 28,.box b1 [No a0.f.1,j,AcB a0.f.2.2.1,o,No a0.f.2.2.2.2.1,No a0.f.2.2.2.2.2.1,p] 26] wr/\(FK a0) m=some r) ?_ ?_
 ·refine Aj<|Ai (Ae Z Ajl Z CO.e)<|Ai (Ag 1 Z d Z)<|Aq 2 Z<|ON 9 54 (.bool ((decide (a0.f.1=3))&&((decide (a0.f.2.2.2.2.1<1))||(decide (2048<a0.f.2.2.2.2.1))))) (fun ah=>?_) ?_
  ·refine IG (s:=45) Z (fun a=>?_) (fun a=>?_)
   ·refine Ab a<|Ai (Ae Z Ajl Z CO.e)<|Ab a<|Ai (Ag 1 Z d Z)<|Ab a<|Ai (Am Z)<|Ab a<|Ai (Am Z)<|ON 4 53 (.bool ((decide (a0.f.2.2.2.2.1<1))||(decide (2048<a0.f.2.2.2.2.1)))) (fun ai=>?_) ?_
    ·refine IG (s:=49) Z (fun g=>?_) (fun g=>?_)
     ·iterate 3 refine Au g ?_
      refine Ab a<|Ai (AK g Z)<|ai.to 3 (Wh g) Z Z
     refine Ab g<|Ai (Ae Z Ajl Z CO.e)<|Ab g<|Ai (Ag 1 Z d Z)<|Ab g<|Ai (Am Z)<|Ab a<|Ai (AS g Z)<|ai.to 3 (Wi g) Z Z
    refine Ai (AK a Z)<|ah.to 5 (Ad7 a) Z Z
   iterate 4 refine Au a ?_
   iterate 3 refine Of ?_
   refine Au a<|Ai (AS a Z)<|ah.to 8 (Ad8 a) Z Z
  refine A7 1 Z<|B3 h ?_ ?_<;>intro a4 h
  ·refine Av<|AA _ ⟨d,h⟩
  refine As<|Ai (Ae Z Ajl Z CO.e)<|Ai (Ag 1 Z d Z)<|Aq 2 Z<|ON 6 64 (.bool ((decide (a0.f.1=6))&&(decide (a0.f.2.2.2.2.2.1<a0.f.2.2.2.2.1)))) (fun aj=>?_) ?_
  ·refine IG (s:=58) Z (fun e=>?_) (fun e=>?_)
   ·refine Ab e<|Ai (Ae Z Ajl Z CO.e)<|Ab e<|Ai (Ag 1 Z d Z)<|Ab e<|Ai (Ae Z Ajl Z CO.e)<|Ab e<|Ai (Ag 1 Z d Z)<|Ab e<|Ai (Am Z)<|Ai (AK e Z)<|aj.to 5 (Ad7 e) Z Z
   iterate 5 refine Au e ?_
   refine Ai (AS e Z)<|aj.to 5 (Ad8 e) Z Z
  refine Aq 1 Z<|AL<|AA _ ⟨d,h⟩
 rintro m bm ⟨k,h⟩;refine B3 h ?_ ?_<;>intro a5 h
 ·refine AI 1 Z<|Ay<|Ax<|Ao ?_
  cases h
  refine Al Z ⟨k.ext,Z⟩
 refine Aj<|Ai (Ae Z Ajl Z CO.e)<|Ai (Ag 1 Z k Z)<|Aq 2 Z<|ON 5 74 (.bool ((decide (a0.f.1=4))&&(decide ((a0.f.2.2.2.1.length:Int)=0)))) (fun ac=>?_) ?_
 ·refine IG (s:=69) Z (fun b=>?_) (fun b=>?_)
  ·refine Ab b<|Ai (Ae Z Ajl Z IF.e)<|Ab b<|Ai (Ag 1 Z k Z)<|Ab b<|Ai (Bk z)<|Ab b<|Ai (Am Z)<|Ai (AK b Z)<|ac.to 4 (Ad7 b) Z Z
  iterate 4 refine Au b ?_
  refine Ai (AS b Z)<|ac.to 4 (Ad8 b) Z Z
 refine A7 1 Z<|B3 h ?_ ?_<;>intro ak h
 ·refine AI 1 Z<|Ay<|Ax<|Ao ?_
  cases h
  refine Al Z ⟨k.ext,Z⟩
 refine Aj<|Ai (Ae Z Ajl Z IF.e)<|Ai (Ag 1 Z k Z)<|Ai (Bk z)<|A7 2 Z<|AO h ?_ ?_<;>intro al h
 ·refine AI 1 Z<|Ay<|Ax<|Ao ?_
  cases h
  refine Al Z ⟨k.ext,Z⟩
 refine Av<|A2<|Ar<|AI 1 Z<|Ay ?_
 cases h
 refine Al Z ⟨k.ext,Z⟩
end
def Iw(a:Int):Option AjP:=
 some (a,(0,0))
def E3(a0:Qv)(a2:Int)(self:Qv->Int->Int->Option AjP):Int×Int->Option ((Int×Int) ⊕ AjP):=fun⟨c,a⟩=>
 if a<(a0.f.2.2.2.2.2.2.length:Int) then AN (0<=a/\a<(a0.f.2.2.2.2.2.2.length:Int)) (AN (Bz (a2+1)) (Qq4 (self (a0.f.2.2.2.2.2.2.getD a.toNat Qq2) c (a2+1)) (fun b=>if b.2.1=0/\b.2.2=0 then AN (Bz (a+1)) (some (Sum.inl (b.1,(a+1)))) else Qq7 Sum.inr (some (0,(b.2.1,b.2.2)))))) else Qq7 Sum.inr (Iw c)
def Kc(a0:Qv)(a2:Int)(self:Qv->Int->Int->Option AjP)(s:Int×Int):Option AjP:=Go.L.run (E3 a0 a2 self) s
def Fx(self:Qv->Int->Int->Option AjP)(a0:Qv)(a1 a2:Int):Option AjP:=
 if(40<=a1)\/(8<a2) then Qq4 (Cx (2:Int) a1) (fun b=>some (0,(b.1,b.2))) else Qq4 (H4 a0) (fun c=>if c=0 then AN (Bz (a1+1)) ((Kc a0 a2 self) ((a1+1),0)) else Qq4 (Cx c a1) (fun a=>some (0,(a.1,a.2))))
def Kd(self:Qv->Int->Int->Option AjP):Prop:=∀ (w:World) (H:PH) (hH:Le H (hp w)) (hU:Ge H) {a0:Qv} {a1:Int} {a2:Int} {a:Value} {b:Value} {c:Value} (d:AJ .st H a (a0.f.2.1)) (e:AJ .byte H b (a0.f.2.2.2.1)) (g:AJ .B1 H c (a0.f.2.2.2.2.2.2)) {r:Int×(Int×Int)} (h:self a0 a1 a2=some r),Ok prog 32 [.agg #[No a0.f.1,a,AcB a0.f.2.2.1,b,No a0.f.2.2.2.2.1,No a0.f.2.2.2.2.2.1,c],No a1,No a2] w (fun v w'=>Ext w w'/\v=.tuple #[No r.1,.agg #[No r.2.1,No r.2.2]])
def Fy:Nat->Qv->Int->Int->Option AjP
 | 0=>fun _ _ _=>none
 | n+1=>Fx (Fy n)
def LN:Qv->Int->Int->Option AjP:=Fy 1000
theorem Q8(self:Qv->Int->Int->Option AjP)(hself:Kd self):Kd (Fx self):=by
 intro w H hH hU a0 a1 a2 l m d an ao o r h;unfold Kd at hself;refine Az 52 [(0,.agg #[No a0.f.1,l,AcB a0.f.2.2.1,m,No a0.f.2.2.2.2.1,No a0.f.2.2.2.2.2.1,d]),(1,No a1),(2,No a2)] func32 Z fun hL=>Aj<|C9 (t:=26) Z Z hL fun w1 b1 a5 bl _=>Aq 1 Z<|A9 AF.e Z a5 fun w2 b2 k bm _=>Ac<|AB<|Bt 3 Z<|Yr 2 2 Z Z Z Z Z Z<|Ac<|AO h ?_ ?_<;>intro a6 h
 ·refine Bt 1 Z<|Aw h fun x5 a7 h=>AE k (CY _ _ (An k) a7) fun w6 b4 a8 bn=>Aq 1 Z<|Af 0 Z a8 Z fun w7 am bo=>Ac<|Ay<|Ao ?_
  cases h
  refine Bu (.tmp Z) (.cell Z Aje Z AF.e (AH (i:=0) am Z)) ⟨am.ext,Z⟩
 refine Av<|Ar<|AB<|Aj<|Ai (A4 1 Z B7.e k Z)<|Aw h fun x9 a9 h=>AE k (Rm (a0:=a0) _ _ (An k) (hU.mono  Ah) (an.mono  Ah) (ao.mono  Ah) (o.mono  Ah) a9) fun b5 bp e bf=>A7 1 Z<|AI 2 Z<|CN h ?_ ?_<;>intro ap h
 ·refine Bt 2 Z<|Aw h fun b6 aq h=>AE e (CY _ _ (An e) aq) fun b7 bq ar bg=>Aq 1 Z<|Af 0 Z ar Z fun b8 y bh=>Ac<|Ay<|Ao ?_
  cases h
  refine Bu (.tmp Z) (.cell Z Aje Z AF.e (AH (i:=0) y Z)) ⟨y.ext,Z⟩
 refine Av<|Ar<|Bt 1 Z<|A1 h fun au h=>Ai (A6 au)<|A7 1 Z<|By Int (fun c=>[(7,(Acy b2)),(9,No c)]) (fun c wr=>Bb w [.box b2 [No 0,No 0] 28,.box b1 [No a0.f.1,l,AcB a0.f.2.2.1,m,No a0.f.2.2.2.2.1,No a0.f.2.2.2.2.2.1,d] 26] wr/\Iw c=some r) ?_ ?_
 ·refine Aj<|Ai (Ae Z Ajl Z Mh.e)<|Ai (Ag 1 Z e Z)<|Ai (Bk o)<|A7 1 Z<|A3 ?_;obtain⟨z,h⟩:=Ba h;refine B5 (Int×Int×Nat) (fun⟨b,a,n⟩=>[(2,No a2),(7,(Acy b2)),(9,No b),(31,d),(32,No (a0.f.2.2.2.2.2.2.length:Int)),(33,No a)]) (fun⟨b,a,n⟩ wr=>Bb w [.box b2 [No 0,No 0] 28,.box b1 [No a0.f.1,l,AcB a0.f.2.2.1,m,No a0.f.2.2.2.2.1,No a0.f.2.2.2.2.2.1,d] 26] wr/\H8 (E3 a0 a2 self) n (b,a)=some r) (fun⟨b,a,n⟩=>n) ((a1+1),0,z) Z ⟨e,h⟩ ?_;rintro⟨b,a,nn92⟩ br ⟨p,h⟩;obtain⟨z,b9,rfl,h,s⟩:=AY h;refine AI 1 Z<|AB<|AO h ?_ ?_<;>intro av h
  ·refine Av<|Ar<|AB<|A3<|Aj<|A1 h fun aa h=>Be o a.toNat (G1 aa) (AX aa) ?_;rintro ca _ e96t0 aw;obtain⟨_,_,rfl,rfl,⟨_,_,rfl,⟨e96v1,rfl,e96h1⟩,⟨_,_,rfl,rfl,⟨_,_,rfl,⟨e96v3,rfl,e96h3⟩,⟨_,_,rfl,rfl,⟨_,_,rfl,rfl,⟨e96v6,rfl,e96h6⟩⟩⟩⟩⟩⟩⟩:=Go.E.Rp.HE e96t0;refine Ai (Cj aw (hH.trans p.arg))<|A9 B7.e Z p fun cb cc ax bi _=>Af 0 Z ax Z (a:=(Bn Z (Bn e96h1.one (Bn Z (Bn e96h3.one (Bn Z (Bn Z (Bn e96h6.one Ky)))))))) fun cd ay bj=>Ac<|Aj<|A9 AF.e Z ay fun bs bt g ba _=>Ac<|Aj<|Ai (A4 1 Z B7.e g Z)<|Aq 2 Z<|A1 h fun ac h=>Ai (A6 ac)<|Aw h fun az ad h=>AE g (hself _ _ (An g) (hU.mono  Ah) (e96h1.mono  Ah) (e96h3.mono  Ah) (e96h6.mono  Ah) ad) fun bu bk ae bb=>Aq 4 Z<|Af 0 Z ae Z fun bv j bc=>Ac<|Aj<|Ai (A4 0 Z AF.e j Z) ?_
   refine Ai (AT (fun _=>BM _))<|Ai (JJ Jg (MR _ _ _ _))<|Ac<|CN h ?_ ?_<;>intro af h
   ·refine Eu (.q 0 (.q 1 (.tail 2))) mixed Qqb (fun bw ag=>?_);have u:=j.call ag;refine CD Z (A4 0 Z AF.e u Z) Z<|D0 1 Z<|BU (fun bx ah=>?_);have ai:=u.call ah;refine Af 2 Z ai Z fun bz v bd=>Ac<|Ay<|Ax<|Ao<|BN ?_;have h:=Ce.out h s;refine Ax<|BI ?_
    cases h
    refine Bu (.tmp Z) (.cell Z Aje Z AF.e (AH (i:=2) v Z)) ⟨v.ext,Z⟩
   refine Av<|A2<|Ar<|As<|A1 h fun aj h=>Ai (A6 aj)<|Aq 1 Z<|AL ?_;have ak:=j.AQ (i:=0) Z;have al:=ak.AQ (i:=0) Z;have h:=Ce.again h s;refine AM (_,_,_) Z ⟨al,h⟩
  refine B2<|AD<|A5 ?_;have h:=Ce.out h s;refine Bf<|AA _ ⟨p,h⟩
 rintro c b0 ⟨a3,h⟩;refine Bt 1 Z<|Ai (AT (fun _=>BM _))<|Aq 1 Z<|Af 0 Z a3 Z fun b3 x be=>Ac<|Ay ?_
 cases h
 refine Bu (.tmp Z) (.cell Z Aje Z AF.e (AH (i:=0) x Z)) ⟨x.ext,Z⟩
theorem S3(n:Nat):Kd (Fy n):=by
 induction n with
 | zero=>unfold Kd;intros;rename_i h;cases h
 | succ n ih=>exact Q8 (Fy n) ih
section
variable(w:World)(H:PH)(hH:Le H (hp w)) include hH
theorem Uh(hU:Ge H){a0:Qv}{a1 a2:Int}{a b c:Value}(d:AJ .st H a (a0.f.2.1))(e:AJ .byte H b (a0.f.2.2.2.1))(g:AJ .B1 H c (a0.f.2.2.2.2.2.2)){r:Int×(Int×Int)}(h:LN a0 a1 a2=some r):Ok prog 32 [.agg #[No a0.f.1,a,AcB a0.f.2.2.1,b,No a0.f.2.2.2.2.1,No a0.f.2.2.2.2.2.1,c],No a1,No a2] w (fun v w'=>Ext w w'/\v=.tuple #[No r.1,.agg #[No r.2.1,No r.2.2]]):=S3 1000 w H hH hU d e g h
def IX(a:AcC):Option AcC:=
 AN (Go.E.H7 1 (a.length+([(39:UInt8)]).length)) (some ((a++[(39:UInt8)])))
def E0(a0:AcC):AcC×Int->Option ((AcC×Int) ⊕ (AcC)):=fun⟨b,a⟩=>
 if a<(a0.length:Int) then AN (0<=a/\a<(a0.length:Int)) (if(((((a0.getD a.toNat Qq2).toNat:Int)=92)\/(((a0.getD a.toNat Qq2).toNat:Int)=39))\/(((a0.getD a.toNat Qq2).toNat:Int)<32))\/(126<((a0.getD a.toNat Qq2).toNat:Int)) then AN (0<=((a0.getD a.toNat Qq2 >>> (4:UInt8)).toNat:Int)/\((a0.getD a.toNat Qq2 >>> (4:UInt8)).toNat:Int)<(([48,49,50,51,52,53,54,55,56,57,97,98,99,100,101,102]:AcC).length:Int)) (AN (0<=((a0.getD a.toNat Qq2 &&& (15:UInt8)).toNat:Int)/\((a0.getD a.toNat Qq2 &&& (15:UInt8)).toNat:Int)<(([48,49,50,51,52,53,54,55,56,57,97,98,99,100,101,102]:AcC).length:Int)) (AN (Go.E.H7 1 (b.length+([(92:UInt8),(([48,49,50,51,52,53,54,55,56,57,97,98,99,100,101,102]:AcC).getD ((a0.getD a.toNat Qq2 >>> (4:UInt8)).toNat:Int).toNat Qq2),(([48,49,50,51,52,53,54,55,56,57,97,98,99,100,101,102]:AcC).getD ((a0.getD a.toNat Qq2 &&& (15:UInt8)).toNat:Int).toNat Qq2)]).length)) (AN (Bz (a+1)) (some (Sum.inl ((b++[(92:UInt8),(([48,49,50,51,52,53,54,55,56,57,97,98,99,100,101,102]:AcC).getD ((a0.getD a.toNat Qq2 >>> (4:UInt8)).toNat:Int).toNat Qq2),(([48,49,50,51,52,53,54,55,56,57,97,98,99,100,101,102]:AcC).getD ((a0.getD a.toNat Qq2 &&& (15:UInt8)).toNat:Int).toNat Qq2)]),(a+1))))))) else AN (Go.E.H7 1 (b.length+([a0.getD a.toNat Qq2]).length)) (AN (Bz (a+1)) (some (Sum.inl ((b++[a0.getD a.toNat Qq2]),(a+1)))))) else Qq7 Sum.inr (IX b)
def Kq(a0:AcC)(s:AcC×Int):Option AcC:=Go.L.run (E0 a0) s
def IC(a0:AcC):Option AcC:=
 (Kq a0) ([(39:UInt8)],0)
theorem OW{a0:AcC}{p:Value}(ab:AJ .byte H p a0){r:AcC}(h:IC a0=some r):
  Qqv 65 [p] w (fun v w'=>v=(AcB r)):=by
 refine Az 45 [(0,p)] func65 Z fun hL=>AI 1 Z<|Aj<|Oy [(39:UInt8)] (r:=.byte) (fun _=>Sk _ _) (BH 1) hH hL (.c1 Z .nil) fun v1 w1 bb bc bm bd=>A7 1 Z<|By (AcC×Value×(List Value)) (fun⟨o,s,j⟩=>[(3,s)]) (fun⟨o,s,j⟩ wr=>FI w [.row s 5 1 (o).length j] wr fun Oz=>AG .byte (gz H w wr Oz) o j/\IX o=some r) ?_ ?_
 ·refine Bt 1 Z<|Ai (Bk ab)<|A7 1 Z<|A3 ?_;obtain⟨y,h⟩:=Ba h;refine B5 (AcC×Int×Value×(List Value)×Nat) (fun⟨e,a,g,f,n⟩=>[(3,g),(7,p),(8,No (a0.length:Int)),(9,No a)]) (fun⟨e,a,g,f,n⟩ wr=>FI w [.row g 5 1 (e).length f] wr fun Oz=>AG .byte (gz H w wr Oz) e f/\H8 (E0 a0) n (e,a)=some r) (fun⟨e,a,g,f,n⟩=>n) ([(39:UInt8)],0,v1,bb,y) Z ⟨bc,bd,h⟩ ?_;rintro⟨e,a,g,f,nn79⟩ bn ⟨k,d,h⟩;obtain⟨y,bv,rfl,h,u⟩:=AY h;refine AI 1 Z<|AB<|AO h ?_ ?_<;>intro aq h
  ·refine Av<|Ar<|AB<|A3<|Aj<|A1 h fun ac h=>Be ab a.toNat (G1 ac) (AX ac) ?_;rintro bw _ rfl ar;refine Ai (Bl ar (hH.trans k.arg))<|A7 1 Z<|Bt 3 Z<|Yr 2 2 Z Z Z Z Z Z<|Aq 1 Z<|Yr 2 6 Z Z Z Z Z Z<|Aq 1 Z<|Yr 2 10 Z Z Z Z Z Z<|Ac<|AO h ?_ ?_<;>intro au h
   ·refine Qk (Qqz 0 7 (.h 7 (.tail 8))) mixed Qqb (fun bx ad=>?_);have av:=k.call ad;have ah:=AR k ad;refine D0 2 Z<|CD Z (AhC (c:=4) Z Qqc) Z<|A1 h fun aw h=>CD Z (ND aw) Z<|D0 1 Z<|CD Z (AcV (b:=15) Z Z Z) Z<|A1 h fun ax h=>CD Z (ND ax) Z<|RH ([(92:UInt8),(([48,49,50,51,52,53,54,55,56,57,97,98,99,100,101,102]:AcC).getD ((a0.getD a.toNat Qq2 >>> (4:UInt8)).toNat:Int).toNat Qq2),(([48,49,50,51,52,53,54,55,56,57,97,98,99,100,101,102]:AcC).getD ((a0.getD a.toNat Qq2 &&& (15:UInt8)).toNat:Int).toNat Qq2)]) (r:=.byte) Z Z (fun _=>Abg _ _ _ _) Z (BH 3) hH av (.c1 Z (.c1 Z (.c1 Z .nil))) fun bz b0 bo ae ai x=>BU (fun b1 af=>?_);have ay:=ae.call af;have z:=AR ae af;refine A1 h fun az h=>?_;have d:=d.mono (Aa (ah.trans (ai.trans z)));have x:=x.mono (Aa z)
    refine Br (r:=.byte) 0 e ([(92:UInt8),(([48,49,50,51,52,53,54,55,56,57,97,98,99,100,101,102]:AcC).getD ((a0.getD a.toNat Qq2 >>> (4:UInt8)).toNat:Int).toNat Qq2),(([48,49,50,51,52,53,54,55,56,57,97,98,99,100,101,102]:AcC).getD ((a0.getD a.toNat Qq2 &&& (15:UInt8)).toNat:Int).toNat Qq2)]) Z Afr ay Z d x az fun be b2 a1 a2 bh a3=>Aq 1 Z<|AL<|A2<|Ar<|As<|A1 h fun a4 h=>Ai (A6 a4)<|Aq 1 Z<|AL ?_;have h:=Ce.again h u;refine AM (_,_,_,_,_) Z ⟨a2,a3,h⟩
   refine As<|Aq 2 Z<|B6 [a0.getD a.toNat Qq2] (r:=.byte) (fun _=>Sk _ _) k (.c1 Z .nil) fun b3 b4 bp a5 aj a6=>A1 h fun ak h=>?_;have d:=d.mono (Aa aj);refine Br (r:=.byte) 0 e [a0.getD a.toNat Qq2] Z Afr a5 Z d a6 ak fun bf b5 a7 a8 bi a9=>Aq 1 Z<|AL<|A2<|Ar<|As<|A1 h fun al h=>Ai (A6 al)<|Aq 1 Z<|AL ?_;have h:=Ce.again h u;refine AM (_,_,_,_,_) Z ⟨a8,a9,h⟩
  refine B2<|AD<|A5 ?_;have h:=Ce.out h u;refine Bf<|AA (_,_,_) ⟨k,d,h⟩
 rintro⟨o,s,j⟩ bq ⟨ba,t,h⟩;refine Bt 1 Z<|B6 [(39:UInt8)] (r:=.byte) (fun _=>Sk _ _) ba (.c1 Z .nil) fun br bs bj am ag an=>A1 h fun ao h=>?_;have t:=t.mono (Aa ag);refine Br (r:=.byte) 0 o [(39:UInt8)] Z Afr am Z t an ao fun bt bu bk aa bg ap=>Ai (UL (aa.RG hH (i:=0) Z ap) (Le.refl _))<|A7 1 Z<|Ay ?_
 cases h
 refine Al Z ⟨aa.ext,Z⟩
end
def Ix(a0:Qv)(a:(List AcC))(b:AcC):Option (Qv):=
 some ((Qv.mk a0.f.1 a a0.f.2.2.1 b a0.f.2.2.2.2.1 a0.f.2.2.2.2.2.1 ([])))
def HX(a0:Qv)(b:(List AcC))(c:AcC):Int->Option ((Int) ⊕ (Qv)):=fun a=>
 if a<(a0.f.2.2.2.2.2.2.length:Int) then AN (0<=a/\a<(a0.f.2.2.2.2.2.2.length:Int)) none else Qq7 Sum.inr ((Ix a0 b c))
def Ke(a0:Qv)(a:(List AcC))(b:AcC)(s:Int):Option (Qv):=Go.L.run (HX a0 a b) s
def Iy(_self:Qv->Option (Qv))(a0:Qv):Option (Qv):=
 Qq4 (Db a0.f.2.1) (fun a=>Qq4 (Fk a0.f.2.2.2.1) (fun b=>(Ke a0 a b) (0:Int)))
def LO(self:Qv->Option (Qv)):Prop:=∀ (w:World) (H:PH) (hH:Le H (hp w)) {a0:Qv} {a:Value} {b:Value} {c:Value} (i:AJ .st H a (a0.f.2.1)) (j:AJ .byte H b (a0.f.2.2.2.1)) (k:AJ .B1 H c (a0.f.2.2.2.2.2.2)) {r:Qv} (h:self a0=some r),Ok prog 96 [.agg #[No a0.f.1,a,AcB a0.f.2.2.1,b,No a0.f.2.2.2.2.1,No a0.f.2.2.2.2.2.1,c]] w (fun v w'=>Ext w w'/\∃ d e g,v=.agg #[No r.f.1,d,AcB r.f.2.2.1,e,No r.f.2.2.2.2.1,No r.f.2.2.2.2.2.1,g]/\AJ .st (un H (nw w w')) d (r.f.2.1)/\AJ .byte (un H (nw w w')) e (r.f.2.2.2.1)/\Ci 26 .B1 H w w' g (r.f.2.2.2.2.2.2))
def IY:Nat->Qv->Option (Qv)
 | 0=>fun _=>none
 | n+1=>Iy (IY n)
def LP:Qv->Option (Qv):=IY 1000
theorem Q9(self:Qv->Option (Qv))(_hself:LO self):LO (Iy self):=by
 intro w H hH a0 a1 a2 ad a3 a4 ae r h;refine Az 32 [(0,.agg #[No a0.f.1,a1,AcB a0.f.2.2.1,a2,No a0.f.2.2.2.2.1,No a0.f.2.2.2.2.2.1,ad])] func96 Z fun hL=>Aj<|C9 (t:=26) Z Z hL fun w1 b1 bc bi _=>A9 B7.e Z bc fun w2 b2 bd bj _=>Ac<|Eu (.q 0 (.q 1 (.q 3 (.q 4 (.h 2 (.q 6 (.h 5 (.tail 7)))))))) mixed Qqb (fun w3 be=>?_);have u:=bd.call be;refine CD Z (Ae Z Ajl Z Na.e) Z<|CD Z (Ag 1 Z u Z) Z<|CD Z (Ae Z Ajl Z IF.e) Z<|CD Z (Ag 1 Z u Z) Z<|Aw h fun x5 bf h=>Cs Z Z Z (fun w7 af=>GA _ _ (An (u.call af)) (a3.mono  Ah) bf) ?_;rintro w7 l w6 af ag ⟨_,rfl,av⟩;have ah:=u.call af;have ai:=ah.call ag;have bl:=AR ah ag;have a:=av.Dn hH ah ag;refine CD Z (Ae Z Ajl Z Na.e) Z<|Aw h fun x9 bg h=>Cs Z Z Z (fun bh m=>Kw _ _ (An (ai.call m)) (a4.mono  Ah) bg) ?_;rintro bh k bp m o ⟨_,rfl,aj⟩;have p:=ai.call m;have ax:=AR ai m;have a:=a.mono (Aa ax)
 have ak:=p.call o;have ay:=AR p o;have b:=aj.Dn hH p o;have a:=a.mono (Aa ay);refine BU (fun bq al=>?_);have a5:=ak.call al;have v:=AR ak al;have a:=a.mono (Aa v);have b:=b.mono (Aa v);refine B8 1 Z a.one a5 Z Z ?_;intro br a6 x;have a:=a.mono (Aa x);have b:=b.mono (Aa x);refine Ai (Ae Z Ajl Z IF.e)<|B8 1 Z b.one a6 Z Z ?_;intro bs am y;have a:=a.mono (Aa y);have b:=b.mono (Aa y);refine Ac<|Aj<|Ai (Ae Z Ajl Z Mh.e)<|Ai (Ag 1 Z am Z)<|A7 1 Z<|Aj<|Ai (Ae Z Ajl Z Mh.e)<|B8 1 Z Z am Z Z ?_;intro bt a7 z;have a:=a.mono (Aa z);have b:=b.mono (Aa z);refine Ac ?_
 refine By Unit (fun(_:Unit)=>[(1,(Acy b1)),(2,(Acy b2))]) (fun(_:Unit) wr=>FI w [.box b2 AcD 26,.box b1 [No a0.f.1,l,AcB a0.f.2.2.1,k,No a0.f.2.2.2.2.1,No a0.f.2.2.2.2.2.1,AaB] 26] wr fun Oz=>AJ .st (gz H w wr Oz) l x5/\AJ .byte (gz H w wr Oz) k x9/\(Ix a0 x5 x9)=some r) ?_ ?_
 ·refine Bt 1 Z<|Ai (Bk ae)<|A7 1 Z<|A3 ?_;obtain⟨az,h⟩:=Ba h;refine B5 (Int×Nat) (fun⟨c,n⟩=>[(1,(Acy b1)),(2,(Acy b2)),(17,ad),(18,No (a0.f.2.2.2.2.2.2.length:Int)),(19,No c)]) (fun⟨c,n⟩ wr=>FI w [.box b2 AcD 26,.box b1 [No a0.f.1,l,AcB a0.f.2.2.1,k,No a0.f.2.2.2.2.1,No a0.f.2.2.2.2.2.1,AaB] 26] wr fun Oz=>AJ .st (gz H w wr Oz) l x5/\AJ .byte (gz H w wr Oz) k x9/\H8 (HX a0 x5 x9) n c=some r) (fun⟨c,n⟩=>n) (0,az) Z ⟨a7,a,b,h⟩ ?_;rintro⟨c,nn47⟩ bm ⟨s,d,e,h⟩;obtain⟨az,bu,rfl,h,a8⟩:=AY h;refine AI 1 Z<|AB<|AO h ?_ ?_<;>intro a9 h
  ·refine Av<|Ar<|AB<|A3<|Aj<|A1 h fun an h=>Be ae c.toNat (G1 an) (AX an) ?_;rintro bv _ e51t0 ba;obtain⟨_,_,rfl,rfl,⟨_,_,rfl,⟨e51v1,rfl,e51h1⟩,⟨_,_,rfl,rfl,⟨_,_,rfl,⟨e51v3,rfl,e51h3⟩,⟨_,_,rfl,rfl,⟨_,_,rfl,rfl,⟨e51v6,rfl,e51h6⟩⟩⟩⟩⟩⟩⟩:=Go.E.Rp.HE e51t0;refine Ai (Cj ba (hH.trans s.arg))<|A9 B7.e Z s ?_;intro bw bx bb aa _;have d:=d.mono (Aa aa);have e:=e.mono (Aa aa);refine Af 0 Z bb Z (a:=(Bn Z (Bn e51h1.one (Bn Z (Bn e51h3.one (Bn Z (Bn Z (Bn e51h6.one Ky)))))))) ?_;intro bz bn ab;have d:=d.mono (Aa ab);have e:=e.mono (Aa ab);refine Ac ?_
   cases h
  refine B2<|AD<|A5 ?_;have h:=Ce.out h a8;refine Bf<|AA () ⟨s,d,e,h⟩
 rintro _ bo ⟨ao,g,j,h⟩;refine Aj<|Ai (A4 1 Z B7.e ao Z)<|Af 0 Z ao Z (a:=(Bn Z (Bn g.one (Bn Z (Bn j.one (AU Z)))))) ?_;intro b0 ap ac;have g:=g.mono (Aa ac);have j:=j.mono (Aa ac);refine Ac<|Ay ?_
 cases h
 refine Dv (.cell Z Ajl Z B7.e (AH (i:=0) ap Z)) ⟨ap.ext,_,_,_,Z,(g.mono  E7),(j.mono  E7),Ci.nil⟩
theorem S4(n:Nat):LO (IY n):=by
 induction n with
 | zero=>unfold LO;intros;rename_i h;cases h
 | succ n ih=>exact Q9 (IY n) ih
section
variable(w:World)(H:PH)(hH:Le H (hp w)) include hH
theorem PM{a0:Qv}{a b c:Value}(d:AJ .st H a (a0.f.2.1))(e:AJ .byte H b (a0.f.2.2.2.1))(g:AJ .B1 H c (a0.f.2.2.2.2.2.2)){r:Qv}(h:LP a0=some r):Ok prog 96 [.agg #[No a0.f.1,a,AcB a0.f.2.2.1,b,No a0.f.2.2.2.2.1,No a0.f.2.2.2.2.2.1,c]] w (fun v w'=>Ext w w'/\∃ i j k,v=.agg #[No r.f.1,i,AcB r.f.2.2.1,j,No r.f.2.2.2.2.1,No r.f.2.2.2.2.2.1,k]/\AJ .st (un H (nw w w')) i (r.f.2.1)/\AJ .byte (un H (nw w w')) j (r.f.2.2.2.1)/\Ci 26 .B1 H w w' k (r.f.2.2.2.2.2.2)):=S4 1000 w H hH d e g h
end
def HY(a:Int)(b:List Qv):Option (Qv):=
 some ((Qv.mk a ([]) ([]:AcC) ([]) (0:Int) (0:Int) b))
def Hn(a0:Qv)(a1:Bool)(d:Int)(self:Qv->Bool->Option (Qv)):(List Qv)×Int->Option (((List Qv)×Int) ⊕ (Qv)):=fun⟨b,a⟩=>
 if a<(a0.f.2.2.2.2.2.2.length:Int) then AN (0<=a/\a<(a0.f.2.2.2.2.2.2.length:Int)) (Qq4 (self (a0.f.2.2.2.2.2.2.getD a.toNat Qq2) a1) (fun c=>if c.f.1=d then none else AN (Go.E.H7 112 (b.length+([c]).length)) (AN (Bz (a+1)) (some (Sum.inl ((b++[c]),(a+1))))))) else Qq7 Sum.inr ((HY d) b)
def JA(a0:Qv)(a1:Bool)(a:Int)(self:Qv->Bool->Option (Qv))(s:(List Qv)×Int):Option (Qv):=Go.L.run (Hn a0 a1 a self) s
def FX(a0:Qv)(a1:Bool)(self:Qv->Bool->Option (Qv))(a:Int):Option (Qv):=
 (JA a0 a1 a self) (([]:List Qv),0)
def HK(self:Qv->Bool->Option (Qv))(a0:Qv)(a1:Bool):Option (Qv):=
 if a0.f.1=10 then AN (0<=(0:Int)/\(0:Int)<(a0.f.2.2.2.2.2.2.length:Int)) (Qq4 (self (a0.f.2.2.2.2.2.2.getD ((0:Int).toNat) Qq2) (!a1)) (fun e=>some e)) else Qq4 (IB a0.f.1) (fun a=>if(bif a then !a1 else false) then Qq4 (LP a0) (fun b=>some b) else Qq4 (IB a0.f.1) (fun c=>if c then Qq4 (LP a0) (fun d=>some ((Qv.mk (10:Int) ([]) ([]:AcC) ([]) (0:Int) (0:Int) ([d])))) else(if a1 then AN (Bz (17 - a0.f.1)) ((FX a0 a1 self) (17 - a0.f.1)) else(FX a0 a1 self) a0.f.1)))
def J0(self:Qv->Bool->Option (Qv)):Prop:=∀ (w:World) (H:PH) (hH:Le H (hp w)) {a0:Qv} {a1:Bool} {a:Value} {b:Value} {c:Value} (i:AJ .st H a (a0.f.2.1)) (j:AJ .byte H b (a0.f.2.2.2.1)) (k:AJ .B1 H c (a0.f.2.2.2.2.2.2)) {r:Qv} (h:self a0 a1=some r),Ok prog 58 [.agg #[No a0.f.1,a,AcB a0.f.2.2.1,b,No a0.f.2.2.2.2.1,No a0.f.2.2.2.2.2.1,c],.bool a1] w (fun v w'=>Ext w w'/\∃ d e g,v=.agg #[No r.f.1,d,AcB r.f.2.2.1,e,No r.f.2.2.2.2.1,No r.f.2.2.2.2.2.1,g]/\AJ .st (un H (nw w w')) d (r.f.2.1)/\AJ .byte (un H (nw w w')) e (r.f.2.2.2.1)/\AJ .B1 (un H (nw w w')) g (r.f.2.2.2.2.2.2))
def Im:Nat->Qv->Bool->Option (Qv)
 | 0=>fun _ _=>none
 | n+1=>HK (Im n)
def MG:Qv->Bool->Option (Qv):=Im 1000
theorem PY(self:Qv->Bool->Option (Qv))(hself:J0 self):J0 (HK self):=by
 intro w H hH a0 a1 au av an bl bm ao r h;unfold J0 at hself;refine Az 75 [(0,.agg #[No a0.f.1,au,AcB a0.f.2.2.1,av,No a0.f.2.2.2.2.1,No a0.f.2.2.2.2.2.1,an]),(1,.bool a1)] func58 Z fun hL=>Aj<|C9 (t:=26) Z Z hL fun w1 b1 c5 dw _=>A9 B7.e Z c5 fun w2 b2 q dx _=>Ac<|AB<|A3<|Aj<|Ai (Ae Z Ajl Z CO.e)<|Ai (Ag 1 Z q Z)<|A7 2 Z<|AO h ?_ ?_<;>intro c6 h
 ·refine Aj<|Ai (Ae Z Ajl Z Mh.e)<|Ai (Ag 1 Z q Z)<|A1 h fun cp h=>Be ao ((0:Int).toNat) (G1 cp) (AX cp) ?_;rintro p5 _ e5t0 c8;obtain⟨_,_,rfl,rfl,⟨_,_,rfl,⟨e5v1,rfl,e5h1⟩,⟨_,_,rfl,rfl,⟨_,_,rfl,⟨e5v3,rfl,e5h3⟩,⟨_,_,rfl,rfl,⟨_,_,rfl,rfl,⟨e5v6,rfl,e5h6⟩⟩⟩⟩⟩⟩⟩:=Go.E.Rp.HE e5t0;refine Ai (Cj c8 (hH.trans q.arg))<|Aq 2 Z<|Aw h fun x7 c9 h=>Bh q (hself _ _ (An q) (e5h1.mono  Ah) (e5h3.mono  Ah) (e5h6.mono  Ah) c9) ?_;rintro _ w8 ⟨dy,dz,d0,rfl,b6,b7,b8⟩ bn da d1;have ai:=b6.mono (DS q bn);have aj:=b7.mono (DS q bn);have ak:=b8.mono (DS q bn);refine Af 0 Z da Z (a:=(Bn Z (Bn ai.one (Bn Z (Bn aj.one (Bn Z (Bn Z (Bn ak.one Ky)))))))) ?_;intro w9 cq a7;have ai:=ai.mono (Aa a7);have aj:=aj.mono (Aa a7);have ak:=ak.mono (Aa a7);refine Ac<|Ay<|Ax<|Ao ?_
  cases h
  refine Dv (.cell Z Ajl Z B7.e (AH (i:=0) cq Z)) ⟨cq.ext,_,_,_,Z,(ai.mono  E7),(aj.mono  E7),(ak.mono  E7)⟩
 refine Aj<|Ai (Ae Z Ajl Z CO.e)<|Ai (Ag 1 Z q Z)<|Aw h fun el cr h=>AE q (M6 _ _ (An q) cr) fun em d2 k dg=>Aq 1 Z<|Uo 2 3 Z Z Z Z Z Z Z<|A7 1 Z<|B3 h ?_ ?_<;>intro cs h
 ·refine Aj<|Ai (A4 1 Z B7.e k Z)<|Aw h fun en ct h=>Bh k (PM (a0:=a0) _ _ (An k) (bl.mono  Ah) (bm.mono  Ah) (ao.mono  Ah) ct) ?_;rintro _ eo ⟨dh,di,dj,rfl,bo,bp,bq⟩ a8 cu dk;have ab:=bo.mono (DS k a8);have ac:=bp.mono (DS k a8);have ad:=bq.Dn hH k a8;refine Af 0 Z cu Z (a:=(Bn Z (Bn ab.one (Bn Z (Bn ac.one (Bn Z (Bn Z (Bn ad.one Ky)))))))) ?_;intro ep br aw;have ab:=ab.mono (Aa aw);have ac:=ac.mono (Aa aw);have ad:=ad.mono (Aa aw);refine Ac<|Ay<|Ax<|Ao ?_
  cases h
  refine Dv (.cell Z Ajl Z B7.e (AH (i:=0) br Z)) ⟨br.ext,_,_,_,Z,(ab.mono  E7),(ac.mono  E7),(ad.mono  E7)⟩
 refine Aj<|Ai (Ae Z Ajl Z CO.e)<|Ai (Ag 1 Z k Z)<|Aw h fun eq cv h=>AE k (M6 _ _ (An k) cv) fun er d3 s dl=>A7 1 Z<|B3 h ?_ ?_<;>intro cw h
 ·refine Aj<|Ai (A4 1 Z B7.e s Z)<|Aw h fun db cx h=>Bh s (PM (a0:=a0) _ _ (An s) (bl.mono  Ah) (bm.mono  Ah) (ao.mono  Ah) cx) ?_;rintro _ es ⟨dm,dn,dp,rfl,bs,bt,bu⟩ a9 cy dq;have u:=bs.mono (DS s a9);have v:=bt.mono (DS s a9);have x:=bu.Dn hH s a9;refine B6 [db] (r:=.B1) (fun _=>Og _ _ _ _ _ _ _ _) cy (.c7 (Go.E.Rp.Iq ⟨_,_,Z,Z,⟨_,_,Z,⟨_,Z,u⟩,⟨_,_,Z,Z,⟨_,_,Z,⟨_,Z,v⟩,⟨_,_,Z,Z,⟨_,_,Z,Z,⟨_,Z,x⟩⟩⟩⟩⟩⟩⟩) .nil) ?_;intro et eu d4 cz ax ap;have u:=u.mono (Aa ax);have v:=v.mono (Aa ax);have x:=x.mono (Aa ax);refine Ai (AT (fun _=>OP _ _ ap.one _))<|Af 0 Z cz Z (a:=(Bn Z (Bn Z (Bn Z (Bn Z (Bn Z (Bn Z (Bn ap.one Ky)))))))) ?_;intro ev bv al;have u:=u.mono (Aa al);have v:=v.mono (Aa al);have x:=x.mono (Aa al);have ap:=ap.mono (Aa al);refine Ac<|Ay<|Ax<|Ao ?_
  cases h
  refine Dv (.cell Z Ajl Z B7.e (AH (i:=0) bv Z)) ⟨bv.ext,_,_,_,Z,(AJ.nil _ _),(AJ.nil _ _),(ap.mono  E7)⟩
 refine Av<|A2<|Ar<|Aj<|Ai (Ae Z Ajl Z CO.e)<|Ai (Ag 1 Z s Z)<|Ai (AT (fun _=>AfO _ _))<|A9 B7.e Z s fun ew ar c0 dr _=>Af 0 Z c0 Z fun ex ba ds=>Ac<|By Int (fun ah=>[(1,.bool a1),(2,(Acy b1)),(4,(Acy b2)),(5,(Acy ar))]) (fun ah wr=>Bb w [.box ar [No ah,AaB,(AcB []),AaB,No 0,No 0,AaB] 26,.box b2 AcD 26,.box b1 [No a0.f.1,au,AcB a0.f.2.2.1,av,No a0.f.2.2.2.2.1,No a0.f.2.2.2.2.2.1,an] 26] wr/\(FX a0 a1 self) ah=some r) ?_ ?_
 ·refine AI 1 Z<|B3 h ?_ ?_<;>intro c1 h
  ·refine As<|Ai (Ae Z Ajl Z CO.e)<|Ai (Ag 2 Z ba Z)<|A1 h fun c2 h=>Ai (A6 c2)<|Ai (Ae Z Ajl Z CO.e)<|B8 0 Z Z ba Z Z fun ey c3 dt=>AL<|AA _ ⟨c3,h⟩
  refine Av<|AA _ ⟨ba,h⟩
 rintro ah d5 ⟨bw,h⟩;refine By ((List Qv)×Value×(List Value)) (fun⟨a5,ay,am⟩=>[(4,(Acy b2)),(5,(Acy ar))]) (fun⟨a5,ay,am⟩ wr=>FI w [.row ay 26 7 (a5).length am,.box ar [No ah,AaB,(AcB []),AaB,No 0,No 0,ay] 26,.box b2 AcD 26,.box b1 [No a0.f.1,au,AcB a0.f.2.2.1,av,No a0.f.2.2.2.2.1,No a0.f.2.2.2.2.2.1,an] 26] wr fun Oz=>AG .B1 (gz H w wr Oz) a5 am/\(HY ah) a5=some r) ?_ ?_
 ·refine Aj<|Ai (Ae Z Ajl Z Mh.e)<|Ai (Ag 2 Z bw Z)<|Ai (Bk ao)<|A7 1 Z<|A3 ?_;obtain⟨b9,dc,ca⟩:=DG .B1 H 26 bw;obtain⟨bb,h⟩:=Ba h;refine B5 ((List Qv)×Int×Value×(List Value)×Nat) (fun⟨o,c,y,j,n⟩=>[(1,.bool a1),(4,(Acy b2)),(5,(Acy ar)),(47,an),(48,No (a0.f.2.2.2.2.2.2.length:Int)),(49,No c)]) (fun⟨o,c,y,j,n⟩ wr=>FI w [.row y 26 7 (o).length j,.box ar [No ah,AaB,(AcB []),AaB,No 0,No 0,y] 26,.box b2 AcD 26,.box b1 [No a0.f.1,au,AcB a0.f.2.2.1,av,No a0.f.2.2.2.2.1,No a0.f.2.2.2.2.2.1,an] 26] wr fun Oz=>AG .B1 (gz H w wr Oz) o j/\H8 (Hn a0 a1 ah self) n (o,c)=some r) (fun⟨o,c,y,j,n⟩=>n) (([]:List Qv),0,AaB,[],bb) Z ⟨b9,ca,h⟩ ?_;rintro⟨o,c,y,j,nn121⟩ du ⟨az,a,h⟩
  obtain⟨bb,d6,rfl,h,be⟩:=AY h;refine AI 1 Z<|AB<|AO h ?_ ?_<;>intro cb h
  ·refine Av<|Ar<|AB<|A3<|Aj<|A1 h fun bf h=>Be ao c.toNat (G1 bf) (AX bf) ?_;rintro d7 _ e126t0 cc;obtain⟨_,_,rfl,rfl,⟨_,_,rfl,⟨e126v1,rfl,e126h1⟩,⟨_,_,rfl,rfl,⟨_,_,rfl,⟨e126v3,rfl,e126h3⟩,⟨_,_,rfl,rfl,⟨_,_,rfl,rfl,⟨e126v6,rfl,e126h6⟩⟩⟩⟩⟩⟩⟩:=Go.E.Rp.HE e126t0;refine Ai (Cj cc (hH.trans az.arg))<|A9 B7.e Z az ?_;intro d8 d9 cd bx _;have a:=a.mono (Aa bx);refine Af 0 Z cd Z (a:=(Bn Z (Bn e126h1.one (Bn Z (Bn e126h3.one (Bn Z (Bn Z (Bn e126h6.one Ky)))))))) ?_;intro ea z bz;have a:=a.mono (Aa bz);refine Ac<|Aj<|Ai (A4 0 Z B7.e z Z)<|Aq 1 Z<|Aw h fun bc ce h=>Bh z (hself _ _ (An z) (e126h1.mono  Ah) (e126h3.mono  Ah) (e126h6.mono  Ah) ce) ?_;rintro _ eb ⟨dd,de,df,rfl,bi,bj,bk⟩ a2 cf b0;have d:=bi.mono (DS z a2);have e:=bj.mono (DS z a2);have g:=bk.mono (DS z a2);have a:=a.mono (Aa b0)
   refine A9 B7.e Z cf ?_;intro ec ed cg ae _;have a:=a.mono (Aa ae);have d:=d.mono (Aa ae);have e:=e.mono (Aa ae);have g:=g.mono (Aa ae);refine Af 0 Z cg Z (a:=(Bn Z (Bn d.one (Bn Z (Bn e.one (Bn Z (Bn Z (Bn g.one Ky)))))))) ?_;intro ee aa af;have a:=a.mono (Aa af);have d:=d.mono (Aa af);have e:=e.mono (Aa af);have g:=g.mono (Aa af);refine Ac ?_;have b:=aa.rG H;refine Aj<|Ai (Ae Z Ajl Z CO.e)<|Ai (Ag 0 Z aa Z)<|Ai (Ae Z Ajl Z CO.e)<|Ai (Ag 3 Z aa Z)<|A7 1 Z<|AO h ?_ ?_<;>intro ch h
   ·cases h
   refine As<|Ai (Ae Z Ajl Z Mh.e)<|Ai (Ag 3 Z aa Z)<|Ai (A4 0 Z B7.e aa Z)<|B6 [bc] (r:=.B1) (fun _=>Og _ _ _ _ _ _ _ _) aa (.c7 (Go.E.Rp.Iq ⟨_,_,Z,Z,⟨_,_,Z,⟨_,Z,(d.mono b)⟩,⟨_,_,Z,Z,⟨_,_,Z,⟨_,Z,(e.mono b)⟩,⟨_,_,Z,Z,⟨_,_,Z,Z,⟨_,Z,(g.mono b)⟩⟩⟩⟩⟩⟩⟩) .nil) ?_;intro ef eg dv ci b3 ag;have b:=b.trans (Aa b3);refine A1 h fun cj h=>Br (r:=.B1) 2 o [bc] Z Aj6 ci Z (a.mono b) ag cj ?_;intro c4 eh ck bg a6 p;have ag:=ag.mono (Aa a6);have b:=b.trans (Aa a6);refine Ai (Ae Z Ajl Z Mh.e)<|B8 3 Z (row_one (bg.at (i:=2) Z)) bg Z Z ?_;intro ei cl aq;have ag:=ag.mono (Aa aq);have p:=p.mono (Aa aq);have b:=b.trans (Aa aq);refine AL<|A2<|Ar<|As<|A1 h fun cm h=>Ai (A6 cm)<|Aq 1 Z<|AL ?_;have cn:=cl.AQ (i:=0) Z
   have p:=p.mono (Aa (Ak (i:=0) Z));have b:=b.trans (Aa (Ak (i:=0) Z));have co:=cn.AQ (i:=0) Z;have p:=p.mono (Aa (Ak (i:=0) Z));have b:=b.trans (Aa (Ak (i:=0) Z));have h:=Ce.again h be;refine AM (_,_,_,_,_) Z ⟨co,p,h⟩
  refine B2<|AD<|A5 ?_;have h:=Ce.out h be;refine Bf<|AA (_,_,_) ⟨az,a,h⟩
 rintro⟨a5,ay,am⟩ ej ⟨bd,a3,h⟩;refine Aj<|Ai (A4 1 Z B7.e bd Z)<|Af 2 Z bd Z (a:=(Bn Z (Bn Z (Bn Z (Bn Z (Bn Z (Bn Z (Bn (row_one (bd.at (i:=0) Z)) Ky)))))))) ?_;intro ek a4 b4;have a3:=a3.mono (Aa b4);refine Ac<|Ay ?_
 cases h
 refine Dv (.cell Z Ajl Z B7.e (AH (i:=2) a4 Z)) ⟨a4.ext,_,_,_,Z,(AJ.nil _ _),(AJ.nil _ _),((a4.Ii hH (i:=0) Z a3).vec hH)⟩
theorem RO(n:Nat):J0 (Im n):=by
 induction n with
 | zero=>unfold J0;intros;rename_i h;cases h
 | succ n ih=>exact PY (Im n) ih
section
variable(w:World)(H:PH)(hH:Le H (hp w)) include hH
theorem Tl{a0:Qv}{a1:Bool}{a b c:Value}(d:AJ .st H a (a0.f.2.1))(e:AJ .byte H b (a0.f.2.2.2.1))(g:AJ .B1 H c (a0.f.2.2.2.2.2.2)){r:Qv}(h:MG a0 a1=some r):Ok prog 58 [.agg #[No a0.f.1,a,AcB a0.f.2.2.1,b,No a0.f.2.2.2.2.1,No a0.f.2.2.2.2.2.1,c],.bool a1] w (fun v w'=>Ext w w'/\∃ i j k,v=.agg #[No r.f.1,i,AcB r.f.2.2.1,j,No r.f.2.2.2.2.1,No r.f.2.2.2.2.2.1,k]/\AJ .st (un H (nw w w')) i (r.f.2.1)/\AJ .byte (un H (nw w w')) j (r.f.2.2.2.1)/\AJ .B1 (un H (nw w w')) k (r.f.2.2.2.2.2.2)):=RO 1000 w H hH d e g h
end
def Gq(_self1:Qv->Option AcC)(self2:(List Qv)->AcC->(List Int)->Option AcC)(a0:Qv):Option AcC:=
 if a0.f.1=1 then AN (0<=(0:Int)/\(0:Int)<(a0.f.2.1.length:Int)) (some (a0.f.2.1.getD ((0:Int).toNat) Qq2)) else(if a0.f.1=2 then Qq4 (Sr a0.f.2.1 ([32]:AcC)) (fun g=>AN (([34]:AcC).length+g.length<=9223372036854775807) (AN ((([34]:AcC)++g).length+([34]:AcC).length<=9223372036854775807) (some (((([34]:AcC)++g)++([34]:AcC)))))) else(if a0.f.1=3 then AN (0<=(0:Int)/\(0:Int)<(a0.f.2.1.length:Int)) (AN ((a0.f.2.1.getD ((0:Int).toNat) Qq2).length+([126]:AcC).length<=9223372036854775807) (Qq4 (Sp a0.f.2.2.2.2.1) (fun a=>AN ((a0.f.2.1.getD ((0:Int).toNat) Qq2++([126]:AcC)).length+a.length<=9223372036854775807) (AN (((a0.f.2.1.getD ((0:Int).toNat) Qq2++([126]:AcC))++a).length+([126]:AcC).length<=9223372036854775807) (AN (0<=(1:Int)/\(1:Int)<(a0.f.2.1.length:Int)) (AN ((((a0.f.2.1.getD ((0:Int).toNat) Qq2++([126]:AcC))++a)++([126]:AcC)).length+(a0.f.2.1.getD ((1:Int).toNat) Qq2).length<=9223372036854775807) (some (((((a0.f.2.1.getD ((0:Int).toNat) Qq2++([126]:AcC))++a)++([126]:AcC))++a0.f.2.1.getD ((1:Int).toNat) Qq2))))))))) else(if a0.f.1=4 then Qq4 (IC a0.f.2.2.2.1) (fun h=>some h) else(if a0.f.1=5 then AN (([47]:AcC).length+a0.f.2.2.1.length<=9223372036854775807) (some ((([47]:AcC)++a0.f.2.2.1))) else(if a0.f.1=6 then AN (([47]:AcC).length+a0.f.2.2.1.length<=9223372036854775807) (AN ((([47]:AcC)++a0.f.2.2.1).length+([61]:AcC).length<=9223372036854775807) (Qq4 (Sp a0.f.2.2.2.2.1) (fun b=>AN (((([47]:AcC)++a0.f.2.2.1)++([61]:AcC)).length+b.length<=9223372036854775807) (AN ((((([47]:AcC)++a0.f.2.2.1)++([61]:AcC))++b).length+([46,46]:AcC).length<=9223372036854775807) (Qq4 (Sp a0.f.2.2.2.2.2.1) (fun c=>AN (((((([47]:AcC)++a0.f.2.2.1)++([61]:AcC))++b)++([46,46]:AcC)).length+c.length<=9223372036854775807) (some ((((((([47]:AcC)++a0.f.2.2.1)++([61]:AcC))++b)++([46,46]:AcC))++c))))))))) else(if a0.f.1=7 then AN (([47]:AcC).length+a0.f.2.2.1.length<=9223372036854775807) (AN ((([47]:AcC)++a0.f.2.2.1).length+([61]:AcC).length<=9223372036854775807) (Qq4 (IC a0.f.2.2.2.1) (fun d=>AN (((([47]:AcC)++a0.f.2.2.1)++([61]:AcC)).length+d.length<=9223372036854775807) (some ((((([47]:AcC)++a0.f.2.2.1)++([61]:AcC))++d)))))) else(if a0.f.1=8 then Qq4 (self2 a0.f.2.2.2.2.2.2 ([38]:AcC) ([9])) (fun i=>some i) else(if a0.f.1=9 then Qq4 (self2 a0.f.2.2.2.2.2.2 ([124]:AcC) ([])) (fun j=>some j) else Qq4 (self2 a0.f.2.2.2.2.2.2 ([]:AcC) ([8,9])) (fun e=>AN (([33]:AcC).length+e.length<=9223372036854775807) (some ((([33]:AcC)++e))))))))))))
theorem Rn{self1:Qv->Option AcC}{self2:(List Qv)->AcC->(List Int)->Option AcC}(_hself1:∀ (w:World) (H:PH) (hH:Le H (hp w)) (hU:Ge H) {a0:Qv} {b:Value} {d:Value} {e:Value} (g:AJ .st H b (a0.f.2.1)) (m:AJ .byte H d (a0.f.2.2.2.1)) (j:AJ .B1 H e (a0.f.2.2.2.2.2.2)) {r:AcC} (h:self1 a0=some r),Ok prog 33 [.agg #[No a0.f.1,b,AcB a0.f.2.2.1,d,No a0.f.2.2.2.2.1,No a0.f.2.2.2.2.2.1,e]] w (fun v w'=>Ext w w'/\v=(AcB r)))(hself2:∀ (w:World) (H:PH) (hH:Le H (hp w)) (hU:Ge H) {a0:List Qv} {a1:AcC} {a2:List Int} {b:Value} {o:Value} (g:AJ .B1 H b a0) (_h2_0:AJ (.int .i64) H o a2) {r:AcC} (h:self2 a0 a1 a2=some r),Ok prog 66 [b,AcB a1,o] w (fun v w'=>Ext w w'/\v=(AcB r)))(w:World)(H:PH)(hH:Le H (hp w))(hU:Ge H){a0:Qv}{b d e:Value}(g:AJ .st H b (a0.f.2.1))(m:AJ .byte H d (a0.f.2.2.2.1))(j:AJ .B1 H e (a0.f.2.2.2.2.2.2)){r:AcC}(h:Gq self1 self2 a0=some r):
  Ok prog 33 [.agg #[No a0.f.1,b,AcB a0.f.2.2.1,d,No a0.f.2.2.2.2.1,No a0.f.2.2.2.2.2.1,e]] w (fun v w'=>Ext w w'/\v=(AcB r)):=by
 refine Az 86 [(0,.agg #[No a0.f.1,b,AcB a0.f.2.2.1,d,No a0.f.2.2.2.2.1,No a0.f.2.2.2.2.2.1,e])] func33 Z fun hL=>Aj<|C9 (t:=26) Z Z hL fun w1 b1 a b8 _=>A7 1 Z<|AB<|Aj<|Ai (Ae Z Ajl Z CO.e)<|Ai (Ag 0 Z a Z)<|Ac<|A3<|AI 2 Z<|AO h ?_ ?_<;>intro bv h
 ·refine Aj<|Ai (Ae Z Ajl Z Na.e)<|Ai (Ag 0 Z a Z)<|A1 h fun y h=>Be g ((0:Int).toNat) (G1 y) (AX y) ?_;rintro p4 _ rfl bw;refine Ai (Bl bw (hH.trans a.arg))<|A7 1 Z<|Ay<|Ax<|Ao ?_
  cases h
  refine Al Z ⟨a.ext,Z⟩
 refine AI 2 Z<|AO h ?_ ?_<;>intro bx h
 ·refine Aj<|Ai (Ae Z Ajl Z Na.e)<|Ai (Ag 0 Z a Z)<|Aw h fun x9 bz h=>AE a (XA _ _ (An a) (g.mono  Ah) bz) fun cg b9 z b0=>A1 h fun aa h=>Ai (L4 aa)<|A1 h fun ab h=>Ai (L4 ab)<|A7 1 Z<|Ay<|Ax<|Ao ?_
  cases h
  refine Al Z ⟨z.ext,Z⟩
 refine AI 2 Z<|AO h ?_ ?_<;>intro ac h
 ·refine Eu (Qqz 0 16 (.tail 16)) mixed Qqb (fun ch ad=>?_);have c:=a.call ad;refine CD Z (Ae Z Ajl Z Na.e) Z<|CD Z (Ag 0 Z c Z) Z<|A1 h fun p h=>HR Z Z Z Aed g ((0:Int).toNat) (G1 p) (AX p) Z ?_;rintro ci _ rfl ae;refine CD Z (Bl ae (hH.trans c.arg)) Z<|A1 h fun af h=>CD Z (L4 af) Z<|CD Z (Ae Z Ajl Z CO.e) Z<|CD Z (Ag 0 Z c Z) Z<|Aw h fun cj ag h=>JI Z Z Z (fun ck ah=>X9 _ _ (Le.refl _) (hU.mono (hH.trans (c.call ah).arg)) ag)<|A1 h fun ai h=>CD Z (L4 ai) Z<|A1 h fun aj h=>CD Z (L4 aj) Z<|CD Z (Ae Z Ajl Z Na.e) Z<|CD Z (Ag 0 Z c Z) Z<|A1 h fun s h=>HR Z Z Z Aed g ((1:Int).toNat) (G1 s) (AX s) Z ?_;rintro cl _ rfl ak;refine CD Z (Bl ak (hH.trans c.arg)) Z<|A1 h fun al h=>?_
  refine CD Z (L4 al) Z<|D0 1 Z<|BU (fun cm am=>?_);have an:=c.call am;refine Ac<|Ay<|Ax<|Ao ?_
  cases h
  refine Al Z ⟨an.ext,Z⟩
 refine AI 2 Z<|AO h ?_ ?_<;>intro ao h
 ·refine Aj<|Ai (Ae Z Ajl Z IF.e)<|Ai (Ag 0 Z a Z)<|Aw h fun cn ap h=>AE a (OW _ _ (An a) (m.mono  Ah) ap) fun co ca aq b2=>A7 1 Z<|Ay<|Ax<|Ao ?_
  cases h
  refine Al Z ⟨aq.ext,Z⟩
 refine AI 2 Z<|AO h ?_ ?_<;>intro ar h
 ·refine Aj<|Ai (Ae Z Ajl Z HC.e)<|Ai (Ag 0 Z a Z)<|A1 h fun au h=>Ai (L4 au)<|A7 1 Z<|Ay<|Ax<|Ao ?_
  cases h
  refine Al Z ⟨a.ext,Z⟩
 refine AI 2 Z<|AO h ?_ ?_<;>intro av h
 ·refine Eu (Qqz 0 14 (.tail 14)) mixed Qqb (fun cp aw=>?_);have i:=a.call aw;refine CD Z (Ae Z Ajl Z HC.e) Z<|CD Z (Ag 0 Z i Z) Z<|A1 h fun ax h=>CD Z (L4 ax) Z<|A1 h fun ay h=>CD Z (L4 ay) Z<|CD Z (Ae Z Ajl Z CO.e) Z<|CD Z (Ag 0 Z i Z) Z<|Aw h fun cq az h=>JI Z Z Z (fun cr a3=>X9 _ _ (Le.refl _) (hU.mono (hH.trans (i.call a3).arg)) az)<|A1 h fun a4 h=>CD Z (L4 a4) Z<|A1 h fun a5 h=>CD Z (L4 a5) Z<|CD Z (Ae Z Ajl Z CO.e) Z<|CD Z (Ag 0 Z i Z) Z<|Aw h fun cs a6 h=>JI Z Z Z (fun ct a7=>X9 _ _ (Le.refl _) (hU.mono (hH.trans (i.call a7).arg)) a6)<|A1 h fun a8 h=>CD Z (L4 a8) Z<|D0 1 Z<|BU (fun cu a9=>?_);have ba:=i.call a9;refine Ac<|Ay<|Ax<|Ao ?_
  cases h
  refine Al Z ⟨ba.ext,Z⟩
 refine AI 2 Z<|AO h ?_ ?_<;>intro bb h
 ·refine Eu (Qqz 0 9 (.tail 9)) mixed Qqb (fun cv bc=>?_);have k:=a.call bc;refine CD Z (Ae Z Ajl Z HC.e) Z<|CD Z (Ag 0 Z k Z) Z<|A1 h fun bd h=>CD Z (L4 bd) Z<|A1 h fun be h=>CD Z (L4 be) Z<|CD Z (Ae Z Ajl Z IF.e) Z<|CD Z (Ag 0 Z k Z) Z<|Aw h fun cw bf h=>JI Z Z Z (fun cx bg=>OW _ _ (Le.refl _) ((m.mono (hH.trans k.arg)).mono bg.le) bf)<|A1 h fun bh h=>CD Z (L4 bh) Z<|D0 1 Z<|BU (fun cy bi=>?_);have bj:=k.call bi;refine Ac<|Ay<|Ax<|Ao ?_
  cases h
  refine Al Z ⟨bj.ext,Z⟩
 refine AI 2 Z<|AO h ?_ ?_<;>intro bk h
 ·refine Aj<|Ai (Ae Z Ajl Z Mh.e)<|Ai (Ag 0 Z a Z)<|B6 [9] (r:=(.int .i64)) (fun _=>Jm _ _) a (.c1 Z .nil) fun cz c0 cb u b3 bl=>Aw h fun c2 bm h=>AE u (hself2 _ _ (An u) (hU.mono  Ah) (j.mono  Ah) bl bm) fun c3 cc bn b4=>A7 1 Z<|Ay<|Ax<|Ao ?_
  cases h
  refine Al Z ⟨bn.ext,Z⟩
 refine AI 2 Z<|AO h ?_ ?_<;>intro bo h
 ·refine Aj<|Ai (Ae Z Ajl Z Mh.e)<|Ai (Ag 0 Z a Z)<|Aw h fun c4 bp h=>AE a (hself2 _ _ (An a) (hU.mono  Ah) (j.mono  Ah) (AJ.nil _ _) bp) fun c5 cd bq b5=>A7 1 Z<|Ay<|Ax<|Ao ?_
  cases h
  refine Al Z ⟨bq.ext,Z⟩
 refine Av<|A2<|Ar<|Aj<|Ai (Ae Z Ajl Z Mh.e)<|Ai (Ag 0 Z a Z)<|B6 [8,9] (r:=(.int .i64)) (fun _=>Abi _ _ _) (hlen:=(BH 2)) a (.c1 Z (.c1 Z .nil)) fun c6 c7 ce x b6 br=>Aw h fun c8 bs h=>AE x (hself2 _ _ (An x) (hU.mono  Ah) (j.mono  Ah) br bs) fun c9 cf bt b7=>A1 h fun bu h=>Ai (L4 bu)<|A7 1 Z<|Ay ?_
 cases h
 refine Al Z ⟨bt.ext,Z⟩
def EX(c:List AcC)(a:Int)(b:AcC):Option (((List AcC)×Int) ⊕ (AcC)):=
 AN (Go.E.H7 16 (c.length+([b]).length)) (AN (Bz (a+1)) (some (Sum.inl ((c++[b]),(a+1)))))
def GD(a1:AcC)(b:List AcC):Option AcC:=
 Qq4 (Sr b a1) (fun a=>some a)
def CW(a0:List Qv)(a1:AcC)(a2:List Int)(self1:Qv->Option AcC):(List AcC)×Int->Option (((List AcC)×Int) ⊕ (AcC)):=fun⟨c,a⟩=>
 if a<(a0.length:Int) then AN (0<=a/\a<(a0.length:Int)) (Qq4 (self1 (a0.getD a.toNat Qq2)) (fun b=>Qq4 (BC a2 ((a0.getD a.toNat Qq2).f.1)) (fun d=>if d then AN (([40]:AcC).length+b.length<=9223372036854775807) (AN ((([40]:AcC)++b).length+([41]:AcC).length<=9223372036854775807) ((EX c a) ((([40]:AcC)++b)++([41]:AcC)))) else(EX c a) b))) else Qq7 Sum.inr ((GD a1) c)
def Iz(a0:List Qv)(a1:AcC)(a2:List Int)(self1:Qv->Option AcC)(s:(List AcC)×Int):Option AcC:=Go.L.run (CW a0 a1 a2 self1) s
def Fz(self1:Qv->Option AcC)(_self2:(List Qv)->AcC->(List Int)->Option AcC)(a0:List Qv)(a1:AcC)(a2:List Int):Option AcC:=
 (Iz a0 a1 a2 self1) (([]:List AcC),0)
theorem QA{self1:Qv->Option AcC}{self2:(List Qv)->AcC->(List Int)->Option AcC}(hself1:∀ (w:World) (H:PH) (hH:Le H (hp w)) (hU:Ge H) {a0:Qv} {c:Value} {ae:Value} {af:Value} (p:AJ .st H c (a0.f.2.1)) (_h0_1:AJ .byte H ae (a0.f.2.2.2.1)) (_h0_2:AJ .B1 H af (a0.f.2.2.2.2.2.2)) {r:AcC} (h:self1 a0=some r),Ok prog 33 [.agg #[No a0.f.1,c,AcB a0.f.2.2.1,ae,No a0.f.2.2.2.2.1,No a0.f.2.2.2.2.2.1,af]] w (fun v w'=>Ext w w'/\v=(AcB r)))(_hself2:∀ (w:World) (H:PH) (hH:Le H (hp w)) (hU:Ge H) {a0:List Qv} {a1:AcC} {a2:List Int} {c:Value} {j:Value} (p:AJ .B1 H c a0) (ag:AJ (.int .i64) H j a2) {r:AcC} (h:self2 a0 a1 a2=some r),Ok prog 66 [c,AcB a1,j] w (fun v w'=>Ext w w'/\v=(AcB r)))(w:World)(H:PH)(hH:Le H (hp w))(hU:Ge H){a0:List Qv}{a1:AcC}{a2:List Int}{c j:Value}(p:AJ .B1 H c a0)(ag:AJ (.int .i64) H j a2){r:AcC}(h:Fz self1 self2 a0 a1 a2=some r):
  Ok prog 66 [c,AcB a1,j] w (fun v w'=>Ext w w'/\v=(AcB r)):=by
 refine Az 34 [(0,c),(1,(AcB a1)),(2,j)] func66 Z fun hL=>AI 1 Z<|Bt 1 Z ?_;obtain⟨bc,bl,bd⟩:=DG .st H 9 hL;refine Ac<|By ((List AcC)×Value×(List Value)) (fun⟨y,q,o⟩=>[(1,(AcB a1)),(7,q)]) (fun⟨y,q,o⟩ wr=>FI w [.row q 9 1 (y).length o] wr fun Oz=>AG .st (gz H w wr Oz) y o/\(GD a1) y=some r) ?_ ?_
 ·refine Bt 1 Z<|Ai (Bk p)<|A7 1 Z<|A3 ?_;obtain⟨ah,h⟩:=Ba h;refine B5 ((List AcC)×Int×Value×(List Value)×Nat) (fun⟨g,a,k,e,n⟩=>[(1,(AcB a1)),(2,j),(7,k),(11,c),(12,No (a0.length:Int)),(13,No a)]) (fun⟨g,a,k,e,n⟩ wr=>FI w [.row k 9 1 (g).length e] wr fun Oz=>AG .st (gz H w wr Oz) g e/\H8 (CW a0 a1 a2 self1) n (g,a)=some r) (fun⟨g,a,k,e,n⟩=>n) (([]:List AcC),0,AaB,[],ah) Z ⟨bc,bd,h⟩ ?_;rintro⟨g,a,k,e,nn79⟩ bm ⟨aa,b,h⟩;obtain⟨ah,be,rfl,h,ai⟩:=AY h;refine AI 1 Z<|AB<|AO h ?_ ?_<;>intro a6 h
  ·refine Av<|Ar<|AB<|A3<|Aj<|A1 h fun aj h=>Be p a.toNat (G1 aj) (AX aj) ?_;rintro bx _ e83t0 a7;obtain⟨_,_,rfl,rfl,⟨_,_,rfl,⟨e83v1,rfl,e83h1⟩,⟨_,_,rfl,rfl,⟨_,_,rfl,⟨e83v3,rfl,e83h3⟩,⟨_,_,rfl,rfl,⟨_,_,rfl,rfl,⟨e83v6,rfl,e83h6⟩⟩⟩⟩⟩⟩⟩:=Go.E.Rp.HE e83t0;refine Ai (Cj a7 (hH.trans aa.arg))<|A9 B7.e Z aa fun bz bf a8 s _=>Af 0 Z a8 Z (a:=(Bn Z (Bn e83h1.one (Bn Z (Bn e83h3.one (Bn Z (Bn Z (Bn e83h6.one Ky)))))))) fun b0 ab t=>Ac<|Aj<|Ai (A4 0 Z B7.e ab Z)<|Aw h fun a5 a9 h=>AE ab (hself1 (a0:=(a0.getD a.toNat Qq2)) _ _ (An ab) (hU.mono  Ah) (e83h1.mono  Ah) (e83h3.mono  Ah) (e83h6.mono  Ah) a9) fun b1 bn ac u=>A7 1 Z ?_
   refine By AcC (fun d=>[(1,(AcB a1)),(2,j),(7,k),(10,(AcB d)),(11,c),(12,No (a0.length:Int)),(13,No a)]) (fun d wr=>FI w [.box bf [No ((a0.getD a.toNat Qq2).f.1),e83v1,.string ⟨((a0.getD a.toNat Qq2).f.2.2.1).toArray⟩,e83v3,No ((a0.getD a.toNat Qq2).f.2.2.2.2.1),No ((a0.getD a.toNat Qq2).f.2.2.2.2.2.1),e83v6] 26,.row k 9 1 (g).length e] wr fun Oz=>AG .st (gz H w wr Oz) g e/\(EX g a) d=some be) ?_ ?_
   ·refine Bt 1 Z<|Ai (Ae Z Ajl Z CO.e)<|Ai (Ag 0 Z ac Z)<|Aw h fun bo am h=>AE ac (HF _ _ (An ac) (ag.mono  Ah) am) fun bp bi ad z=>Ac<|B3 h ?_ ?_<;>intro an h
    ·refine As<|Aq 1 Z<|A1 h fun ao h=>Ai (L4 ao)<|A1 h fun ap h=>Ai (L4 ap)<|Aq 1 Z<|AL ?_;have b:=b.mono (Aa (s.trans (t.trans (u.trans z))));refine AA _ ⟨ad,b,h⟩
    refine Av ?_;have b:=b.mono (Aa (s.trans (t.trans (u.trans z))));refine AA _ ⟨ad,b,h⟩
   have b:=b.mono (Aa (s.trans (t.trans u)));rintro d bq ⟨ba,b,h⟩;refine As<|Aq 2 Z<|B6 [d] (r:=.st) (fun _=>Sj _ Z _) ba (.c1 Z .nil) fun br bs bj aq ak ar=>A1 h fun au h=>?_;have b:=b.mono (Aa ak);refine Br (r:=.st) 1 g [d] Z Aed aq Z b ar au fun bb bt av aw bg x=>Aq 1 Z<|AL<|A2<|Ar<|As<|A1 h fun ax h=>Ai (A6 ax)<|Aq 1 Z<|AL ?_;have ay:=aw.AQ (i:=0) Z;have h:=Ce.again h ai;have x:=x.mono (Aa (Ak (i:=0) Z));refine AM (_,_,_,_,_) Z ⟨ay,x,h⟩
  refine B2<|AD<|A5 ?_;have h:=Ce.out h ai;refine Bf<|AA (_,_,_) ⟨aa,b,h⟩
 rintro⟨y,q,o⟩ bu ⟨al,az,h⟩;refine Bt 2 Z<|Aw h fun bv a3 h=>AE al (XA _ _ (Le.refl _) (al.RG hH (i:=0) Z az) a3) fun bw bk a4 bh=>A7 1 Z<|Ay ?_
 cases h
 refine Al Z ⟨a4.ext,Z⟩
def BL:Nat->(Qv->Option AcC)×((List Qv)->AcC->(List Int)->Option AcC)
 | 0=>(fun _=>none,fun _ _ _=>none)
 | n+1=>(Gq ((BL n).1) ((BL n).2),Fz ((BL n).1) ((BL n).2))
def Ol:Qv->Option AcC:=(BL 1000).1
theorem RP(n:Nat):(∀ (w:World) (H:PH) (hH:Le H (hp w)) (hU:Ge H) {a0:Qv} {a:Value} {b:Value} {c:Value} (e:AJ .st H a (a0.f.2.1)) (g:AJ .byte H b (a0.f.2.2.2.1)) (i:AJ .B1 H c (a0.f.2.2.2.2.2.2)) {r:AcC} (h:((BL n).1) a0=some r),Ok prog 33 [.agg #[No a0.f.1,a,AcB a0.f.2.2.1,b,No a0.f.2.2.2.2.1,No a0.f.2.2.2.2.2.1,c]] w (fun v w'=>Ext w w'/\v=(AcB r)))/\(∀ (w:World) (H:PH) (hH:Le H (hp w)) (hU:Ge H) {a0:List Qv} {a1:AcC} {a2:List Int} {a:Value} {d:Value} (e:AJ .B1 H a a0) (j:AJ (.int .i64) H d a2) {r:AcC} (h:((BL n).2) a0 a1 a2=some r),Ok prog 66 [a,AcB a1,d] w (fun v w'=>Ext w w'/\v=(AcB r))):=by
 induction n with
 | zero=>exact⟨(by intros;rename_i h;cases h),(by intros;rename_i h;cases h)⟩
 | succ n ih=>exact⟨Rn ih.1 ih.2,QA ih.1 ih.2⟩
section
variable(w:World)(H:PH)(hH:Le H (hp w)) include hH
theorem Vz(hU:Ge H){a0:Qv}{a b c:Value}(d:AJ .st H a (a0.f.2.1))(e:AJ .byte H b (a0.f.2.2.2.1))(g:AJ .B1 H c (a0.f.2.2.2.2.2.2)){r:AcC}(h:Ol a0=some r):Ok prog 33 [.agg #[No a0.f.1,a,AcB a0.f.2.2.1,b,No a0.f.2.2.2.2.1,No a0.f.2.2.2.2.2.1,c]] w (fun v w'=>Ext w w'/\v=(AcB r)):=(RP 1000).1 w H hH hU d e g h
def Ho(a0:Qv):Option (AcC×(Int×Int)):=
 Qq4 (LN a0 (0:Int) (1:Int)) (fun a=>if a.2.1=0/\a.2.2=0 then Qq4 (Ol a0) (fun b=>if 200<(b.length:Int) then Qq4 (Cx (14:Int) (-1:Int)) (fun c=>some (([]:AcC),(c.1,c.2))) else some (b,(0,0))) else some (([]:AcC),(a.2.1,a.2.2)))
theorem KU(hU:Ge H)(a0:Qv){b c d:Value}(g:AJ .st H b (a0.f.2.1))(j:AJ .byte H c (a0.f.2.2.2.1))(k:AJ .B1 H d (a0.f.2.2.2.2.2.2)){r:AcC×(Int×Int)}(h:Ho a0=some r):
  Qqv 11 [.agg #[No a0.f.1,b,AcB a0.f.2.2.1,c,No a0.f.2.2.2.2.1,No a0.f.2.2.2.2.2.1,d]] w (fun v w'=>v=.tuple #[AcB r.1,.agg #[No r.2.1,No r.2.2]]):=by
 refine Az 24 [(0,.agg #[No a0.f.1,b,AcB a0.f.2.2.1,c,No a0.f.2.2.2.2.1,No a0.f.2.2.2.2.2.1,d])] func11 Z fun hL=>Aj<|C9 (t:=26) Z Z hL fun w1 b1 ac an _=>Aq 1 Z<|A9 AF.e Z ac fun w2 b2 l ao _=>Ac<|AB<|Aj<|Ai (A4 1 Z B7.e l Z)<|Aw h fun x3 ad h=>AE l (Uh (a0:=a0) _ _ (An l) (hU.mono  Ah) (g.mono  Ah) (j.mono  Ah) (k.mono  Ah) ad) fun w4 aw ae ap=>Aq 3 Z<|A9 AF.e Z ae fun w5 b5 af aq _=>Aq 1 Z<|Af 0 Z af Z fun w6 a ar=>Ac<|Aj<|Ai (A4 0 Z AF.e a Z)<|Ai (AT (fun _=>BM _))<|Ai (JJ Jg (MR _ _ _ _))<|Ac<|CN h ?_ ?_<;>intro ag h
 ·refine Eu (.q 0 (.q 1 (.tail 2))) mixed Qqb (fun w9 ah=>?_);have m:=a.call ah;refine CD Z (A4 0 Z AF.e m Z) Z<|D0 1 Z<|BU (fun ax u=>?_);have x:=m.call u;refine Af 1 Z x Z fun ay o ai=>Ac<|Ay<|Ao ?_
  cases h
  refine Bu (.tmp Z) (.cell Z Aje Z AF.e (AH (i:=1) o Z)) ⟨o.ext,Z⟩
 refine Av<|Ar<|Aj<|Ai (A4 2 Z B7.e a Z)<|Aw h fun az y h=>AE a (Vz (a0:=a0) _ _ (An a) (hU.mono  Ah) (g.mono  Ah) (j.mono  Ah) (k.mono  Ah) y) fun a1 au e aj=>A7 1 Z<|AB<|Bt 1 Z<|Ai (IP Z)<|A7 1 Z<|AO h ?_ ?_<;>intro z h
 ·refine Aj<|Aw h fun a2 aa h=>AE e (CY _ _ (An e) aa) fun a3 av ab ak=>Aq 1 Z<|Af 1 Z ab Z fun a4 p al=>Ac<|Ay<|Ao ?_
  cases h
  refine Bu (.tmp Z) (.cell Z Aje Z AF.e (AH (i:=1) p Z)) ⟨p.ext,Z⟩
 refine Av<|Ar<|Bt 1 Z<|Ai (AT (fun _=>BM _))<|Aq 1 Z<|Af 1 Z e Z fun a5 s am=>Ac<|Ay ?_
 cases h
 refine Bu (.tmp Z) (.cell Z Aje Z AF.e (AH (i:=1) s Z)) ⟨s.ext,Z⟩
def FQ(a0:Qv):Option ((Int×Int)):=
 Qq4 (Ho a0) (fun a=>some ((a.2.1,a.2.2)))
theorem Li(hU:Ge H){a0:Qv}{a b c:Value}(j:AJ .st H a (a0.f.2.1))(k:AJ .byte H b (a0.f.2.2.2.1))(l:AJ .B1 H c (a0.f.2.2.2.2.2.2)){r:(Int×Int)}(h:FQ a0=some r):
  Qqv 14 [.agg #[No a0.f.1,a,AcB a0.f.2.2.1,b,No a0.f.2.2.2.2.1,No a0.f.2.2.2.2.2.1,c]] w (fun v w'=>v=.agg #[No r.1,No r.2]):=by
 refine Az 11 [(0,.agg #[No a0.f.1,a,AcB a0.f.2.2.1,b,No a0.f.2.2.2.2.1,No a0.f.2.2.2.2.2.1,c])] func14 Z fun hL=>Aj<|C9 (t:=26) Z Z hL fun w1 b1 m s _=>A9 AF.e Z m fun w2 b2 d u _=>Ac<|Aj<|Ai (A4 1 Z B7.e d Z)<|Aw h fun x3 o h=>AE d (KU _ _ (An d) (hU.mono  Ah) a0 (j.mono  Ah) (k.mono  Ah) (l.mono  Ah) o) fun w4 ab p x=>Aq 3 Z<|A9 AF.e Z p fun w5 b5 q y _=>Aq 1 Z<|Af 0 Z q Z fun w6 e z=>Ac<|Aj<|Ai (A4 0 Z AF.e e Z)<|Af 1 Z e Z fun w7 g aa=>Ac<|Ay ?_
 cases h
 refine Dv (.cell Z Aje Z AF.e (AH (i:=1) g Z)) ⟨g.ext,Z⟩
def MH(a0:Qv):Option (Qv×(Int×Int)):=
 Qq4 (FQ a0) (fun c=>if c.1=0/\c.2=0 then Qq4 (MG a0 false) (fun a=>Qq4 (FQ a) (fun b=>if b.1=0/\b.2=0 then some (a,(0,0)) else none)) else none)
theorem Tm(hU:Ge H){a0:Qv}{l m o:Value}(u:AJ .st H l (a0.f.2.1))(x:AJ .byte H m (a0.f.2.2.2.1))(y:AJ .B1 H o (a0.f.2.2.2.2.2.2)){r:Qv×(Int×Int)}(h:MH a0=some r):
  Qqv 27 [.agg #[No a0.f.1,l,AcB a0.f.2.2.1,m,No a0.f.2.2.2.2.1,No a0.f.2.2.2.2.2.1,o]] w (fun v w'=>∃ u0 u1 u2,v=.tuple #[.agg #[No r.1.f.1,u0,AcB r.1.f.2.2.1,u1,No r.1.f.2.2.2.2.1,No r.1.f.2.2.2.2.2.1,u2],.agg #[No r.2.1,No r.2.2]]/\AJ .st (un H (nw w w')) u0 (r.1.f.2.1)/\AJ .byte (un H (nw w w')) u1 (r.1.f.2.2.2.1)/\AJ .B1 (un H (nw w w')) u2 (r.1.f.2.2.2.2.2.2)):=by
 refine Az 25 [(0,.agg #[No a0.f.1,l,AcB a0.f.2.2.1,m,No a0.f.2.2.2.2.1,No a0.f.2.2.2.2.2.1,o])] func27 Z fun hL=>Aj<|C9 (t:=26) Z Z hL fun w1 b1 av a7 _=>A9 B7.e Z av fun w2 b2 aw a8 _=>A9 AF.e Z aw fun w3 b3 z a9 _=>Ac<|AB<|Aj<|Ai (A4 2 Z B7.e z Z)<|Aw h fun x4 ax h=>AE z (Li (a0:=a0) _ _ (An z) (hU.mono  Ah) (u.mono  Ah) (x.mono  Ah) (y.mono  Ah) ax) fun w5 be ay ba=>A9 AF.e Z ay fun w6 b6 az bb _=>Af 0 Z az Z fun w7 e bc=>Ac<|Aj<|Ai (A4 0 Z AF.e e Z)<|Ai (AT (fun _=>BM _))<|Ai (JJ Jg (MR _ _ _ _))<|Ac<|CN h ?_ ?_<;>intro a1 h
 ·cases h
 refine Av<|Ar<|Aj<|Ai (A4 3 Z B7.e e Z)<|Aw h fun a2 ai h=>Bh e (Tl (a0:=a0) _ _ (An e) (u.mono  Ah) (x.mono  Ah) (y.mono  Ah) ai) ?_;rintro _ bf ⟨a3,a4,a5,rfl,aa,ab,ac⟩ p aj a6;have b:=aa.mono (DS e p);have c:=ab.mono (DS e p);have d:=ac.mono (DS e p);refine A9 B7.e Z aj fun bg bh ak g _=>Af 0 Z ak Z (a:=(Bn Z (Bn b.one (Bn Z (Bn c.one (Bn Z (Bn Z (Bn d.one Ky)))))))) fun bi j k=>Ac<|AB ?_;have a:=j.rG H;refine Aj<|Ai (A4 0 Z B7.e j Z)<|Aw h fun bj al h=>?_;have b:=b.mono (Aa (g.trans k));have c:=c.mono (Aa (g.trans k));have d:=d.mono (Aa (g.trans k));refine AE j (Li (a0:=a2) _ _ (An j) (hU.mono  Ah) (b.mono a) (c.mono a) (d.mono a) al) fun bk bd am ad=>A9 AF.e Z am fun bl bm an ae _=>Af 0 Z an Z fun bn q af=>Ac<|Aj ?_
 refine Ai (A4 0 Z AF.e q Z)<|Ai (AT (fun _=>BM _))<|Ai (JJ Jg (MR _ _ _ _))<|Ac<|CN h ?_ ?_<;>intro ao h
 ·cases h
 refine Av<|Ar<|Aj<|Ai (A4 1 Z B7.e q Z)<|Ai (AT (fun _=>BM _)) ?_;have a:=a.trans (Aa (ad.trans (ae.trans af)));refine Af 4 Z q Z (a:=(Bn Z (Bn (b.mono a).one (Bn Z (Bn (c.mono a).one (Bn Z (Bn Z (Bn (d.mono a).one Ky)))))))) fun bo ap ag=>Af 3 Z ap Z fun bp s ah=>Ac<|Ay ?_
 cases h
 refine Bu (.cell Z Ajl Z B7.e (AH (i:=4) s Z)) (.cell Z Aje Z AF.e (AH (i:=3) s Z)) ?_;have a:=a.trans (Aa (ag.trans ah));exact⟨s.ext,_,_,_,Z,((b.mono a).mono  E7),((c.mono a).mono  E7),((d.mono a).mono  E7)⟩
end
end Go.Proofs.YtekmbcbgknmhiaaGreatDoor
end
noncomputable section
namespace Go.L
def iota(n:Nat):List Int:=(Qzv n).map fun i:Nat=>(i:Int)
theorem I0(n:Nat):(iota n).length=n:=by simp [iota]
def PN(n:Nat):List (Fin (n+1)):=(Qzv n).map fun i=>Fin.ofNat (n+1) i
theorem WQ(n:Nat):(PN n).map (fun x=>(x.val:Int))=iota n:=by
 unfold PN iota;rw [Qx0];apply List.map_congr_left;intro i hi;have:=List.mem_range.1 hi
 show((i % (n+1):Nat):Int)=(i:Int)
 rw [Nat.mod_eq_of_lt U]
def K2(a:List UInt8)(x y:Fin (a.length+1)):Int:=Lib.compareBytes (a.drop x.val) (a.drop y.val)
def Aag(a:List UInt8):List (Fin (a.length+1)):=(PN a.length).mergeSort fun x y=>!(Go.Proofs.ltOf (K2 a)) y x
def DF(a:List UInt8):List Int:=(Aag a).map fun x=>(x.val:Int)
theorem Abn{α:Type}(f:α->List UInt8):Go.Sort.SWO (Go.Proofs.ltOf fun x y=>Lib.compareBytes (f x) (f y)):=by
 constructor
 ·intro x;simp [Go.Proofs.ltOf,Vs]
 ·intro x y z a h2;unfold Go.Proofs.ltOf at *;simp only [decide_eq_true_eq] at *;exact N5 _ _ _ a h2
 ·intro x y z a h2;unfold Go.Proofs.ltOf at *;simp only [decide_eq_false_iff_not] at *;intro h3;have s1:=KI (f x) (f y);have b:=KI (f y) (f z)
  rcases Int.lt_trichotomy (Lib.compareBytes (f y) (f x)) 0 with h | h | h
  ·have:=N5 _ _ _ h h3;omega
  ·rw [Q3 _ _ h] at h2;omega
  ·omega
theorem P5(a:List UInt8)(x y:Fin (a.length+1))(b:Go.Proofs.ltOf (K2 a) x y=false)(h2:Go.Proofs.ltOf (K2 a) y x=false):x=y:=by
 unfold Go.Proofs.ltOf at b h2;simp only [decide_eq_false_iff_not] at b h2;have s:=KI (a.drop x.val) (a.drop y.val);unfold K2 at b h2;have:=Q3 _ _ (show Lib.compareBytes (a.drop x.val) (a.drop y.val)=0 by omega);have hl:(a.drop x.val).length=(a.drop y.val).length:=by rw [this]
 simp only [List.length_drop] at hl;have:=x.isLt;have:=y.isLt;exact Fin.ext U
end Go.L
end
noncomputable section
namespace Go.Proofs.YtekmbcbgknmhiaaGreatDoor
open Go Go.E Go.RowKit Go.Sort Go.Shelf
theorem Wr(a b:List UInt8):O2 a b=some (Lib.compareBytes a b):=Z
theorem AiI{O:List BS}{i b:Nat}{cs:List Value}{t:TypeId}(h:E6 O i=some (.box b cs t)):BS.box b cs t∈O:=(ES h).mem_iff.2 (.head _)
theorem Aca{n:Sz}{ops:Array Oper}{Q:Exit->Act->World->Prop}{L:Env}{w f:World}{O:List BS}{rest:List Oper}{d:Nat}{ty:TypeId}{pos:String}{af:Array Edge}{v tv:Value}{H:PH}{i b:Nat}{xs:List Value}{a:List UInt8}{args:List Operand}{at_:Array TypeId}
  (ha:RW L args=some [v,.func (.func 174) #[] #[.pointer (some ⟨b,0,none⟩)]]) (hn:Nat.blt d n.n=true) (hH:Le H (hp f)) (hL:Bb f O w) (hi:E6 O i=some (.row v 3 1 (Go.L.iota a.length).length xs)) (he:AG (.int .i64) (gz H f w O) (Go.L.iota a.length) xs) (htx:AJ .byte (gz H f w O) tv a) (hbox:BS.box b [tv] 23∈O) (hl:a.length<4611686018427387904)
  (h:∀ w' xs',Bb f (D7 O i (.row v 3 1 (Go.L.DF a).length xs')) w'->Le (fz w O) (fz w' (D7 O i (.row v 3 1 (Go.L.DF a).length xs')))->AG (.int .i64) (gz H f w' (D7 O i (.row v 3 1 (Go.L.DF a).length xs'))) (Go.L.DF a) xs'->S Tryz.prog n ops Q rest ((d,.tuple #[])::L) w') :
  S Tryz.prog n ops Q (⟨some d,.call ⟨.value (.func 173),args.toArray,at_⟩,ty,pos,af,none⟩::rest) L w:=by
 have hxs:xs=(Go.L.PN a.length).map (fun x:Fin (a.length+1)=>Value.int .i64 (x.val:Int)):=by
  rw [<- Vp he,<- Go.L.WQ,Qx0];rfl
 have hfl:(Go.L.PN a.length).length=a.length:=by simp [Go.L.PN]
 have hll:(Go.L.DF a).length=(Go.L.iota a.length).length:=by
  unfold Go.L.DF Go.L.Aag;rw [Qzk,List.length_mergeSort,hfl,Go.L.I0]
 have hys:(Go.L.DF a).map (Value.int .i64)=(Go.L.Aag a).map (fun x:Fin (a.length+1)=>Value.int .i64 (x.val:Int)):=by
  unfold Go.L.DF;rw [Qx0];rfl
 refine Vo (l':=Go.L.DF a) (enc:=fun x:Fin (a.length+1)=>Value.int .i64 (x.val:Int)) (dd:=(Go.L.Aag a).toArray) (ys:=(Go.L.DF a).map (Value.int .i64)) ⟨Tryz.f173,_,Tryz.func173,Z,Z⟩ ha hn hL hi (by rw [hys]) hll (by rw [hxs];simp [hll,hfl,Go.L.I0]) (fun l=>?_) (fun hv=>?_) (fun g cap hv hcap=>?_) (fun w' p h2=>h w' _ p h2 (S0 _ _))
 ·have p:(Go.L.DF a).length=0:=by rw [hll];exact l
  have h2:xs.length=0:=by rw [hxs,Qzk,hfl];rw [Go.L.I0] at l;exact l
  rw [Qz7 p,Qz7 h2];rfl
 ·subst hv;exact AnyF.slices_SortFunc_none Tryz.Ah3 none 0 _ w
 ·have hown:w.ownsRow 0 3 1 v (Go.L.iota a.length).length xs:=hL.at hi;rw [hv] at hown;obtain⟨hhk,hblk⟩:=QZ (fun x:Fin (a.length+1)=>Value.int .i64 (x.val:Int)) ((Go.L.PN a.length).toArray) hown (by simpa using hxs.symm);have hsz:(Go.L.iota a.length).length=(Go.L.PN a.length).toArray.size:=by rw [Go.L.I0];simp [hfl]
  have hgo:∀ j x,BS.row v 3 1 j x∈O->True:=fun _ _ _=>trivial;subst hv;have hs:=Any.slices_SortFunc_total (P:=Tryz.prog) Tryz.Ait (fun x:Fin (a.length+1)=>Value.int .i64 (x.val:Int)) (fun _=>Z) (Go.L.K2 a) (Go.L.Abn _) 174 #[.pointer (some ⟨b,0,none⟩)] g 0 cap (Go.L.PN a.length).toArray w (enters_of Tryz.func174 Qqb Z) ?_ hhk hblk (by rw [<- hsz,Go.L.I0];exact hl) (Go.L.P5 a)
  ·rw [<- hsz] at hs;exact hs.mono fun e w' ⟨he,m,os,hw⟩=>⟨he,m,os,hw⟩
  ·intro m os dk hs x y;have hx:=x.isLt;have hy:=y.isLt
   have hr:NI (x.val:Int) (y.val:Int) a=some (Go.L.K2 a x y):=by
    unfold NI;rw [Go.L.Ad U,Go.L.Ad U,Qq8,Qq8,Wr]
    rfl
   have hne:∀ c,(∃ cs t,BS.box c cs t∈O)->c≠g:=fun c ⟨cs,t,hc⟩ e=>by
    subst e;have hd:=List.pairwise_cons.1 (hL.perm (ES hi).symm).dis
    have hm:BS.box c cs t∈N9 O i:=by
     rcases List.mem_cons.1 ((ES hi).mem_iff.1 hc) with h | h
     ·cases h
     ·exact h
    exact hd.1 _ hm c Z Z
   have hkeep:∀ k o,w.heap[k]? = some o->k≠g->(sortWorld (fun x:Fin (a.length+1)=>Value.int .i64 (x.val:Int)) w g 0 m dk os).heap[k]? = some o:=fun k o hk hkg=>by
    rw [NK _ w g m dk os k (lt_of_heap hk),if_neg hkg];exact hk
   have hle:Le (fz w O) (hp (sortWorld (fun x:Fin (a.length+1)=>Value.int .i64 (x.val:Int)) w g 0 m dk os)):=fun c o hc=>by
    refine hkeep c o (AaE w O c o hc) fun e=>?_;subst e;have hown:owned O c=true:=Ei.2 ⟨_,(ES hi).mem_iff.2 (.head _),Z⟩;unfold fz at hc;rw [if_pos hown] at hc
    cases hc
   have hbx:IM (hp (sortWorld (fun x:Fin (a.length+1)=>Value.int .i64 (x.val:Int)) w g 0 m dk os)) ⟨b,0,none⟩ [tv]:=by
    have hok:w.heap[b]? = some (.cells #[tv] 23 (0,0)):=hL.res _ hbox;have hh:=hkeep b _ hok (hne b ⟨_,_,hbox⟩);refine⟨Z,fun j u hu=>?_⟩;simp only [Addr.add_lit,Nat.zero_add,ID,hp,hh]
    simpa using hu
   have hk:=@Ss ⟨true⟩ (sortWorld (fun x:Fin (a.length+1)=>Value.int .i64 (x.val:Int)) w g 0 m dk os) (hp _) (Le.refl _) _ _ _ _ _ (htx.mono ((AcY hH hL).trans hle)) hbx _ hr;refine hk.2.mono fun en w' ⟨u,he,hx,hu⟩=>?_;subst he;subst hu;obtain⟨q,os',hw⟩:=@YP ⟨true⟩ _ _ Z hx;exact⟨Z,q,os',hw⟩
end Go.Proofs.YtekmbcbgknmhiaaGreatDoor
end
noncomputable section
namespace Go.Proofs.YtekmbcbgknmhiaaGreatDoor
open Go Go.E Go.RowKit Go.L
set_option maxHeartbeats 1000000
set_option maxRecDepth 10000
open _root_.Go.Proofs.Tryz
def Nx(a0 a1:Int):Option ((Int×Int)):=
 some ((a0,a1))
section
variable(w:World)(H:PH)(hH:Le H (hp w)) include hH
theorem Ui{a0 a1:Int}{r:(Int×Int)}(h:Nx a0 a1=some r):
  Qqv 122 [No a0,No a1] w (fun v w'=>v=.agg #[No r.1,No r.2]):=by
 refine Az 8 [(0,No a0),(1,No a1)] func122 Z fun hL=>Aj<|A9 AF.e Z hL fun e f b c _=>Ac<|Bt 2 Z<|Ai (AT (fun _=>Mx _ _ _))<|Af 0 Z b Z fun g a d=>Ac<|Ay ?_
 cases h
 refine Dv (.cell Z Aje Z AF.e (AH (i:=0) a Z)) ⟨a.ext,Z⟩
def Io(a0:AcC)(a:List Int):Option ((List Int)):=
 AN (a=Go.L.iota a0.length/\a0.length<4611686018427387904) (some ((DF a0)))
def Eo(a0:AcC):(List Int)×Int->Option (((List Int)×Int) ⊕ ((List Int))):=fun⟨b,a⟩=>
 if a<((Qzz (a0.length:Int).toNat (0:Int)).length:Int) then AN (0<=a/\a<(b.length:Int)) (AN (Bz (a+1)) (some (Sum.inl ((b.set a.toNat a),(a+1))))) else Qq7 Sum.inr ((Io a0) b)
def KV(a0:AcC)(s:(List Int)×Int):Option ((List Int)):=Go.L.run (Eo a0) s
def Kr(a0:AcC):Option ((List Int)):=
 AN (0<=(a0.length:Int)/\((8:Nat):Int) * (a0.length:Int)<=281474976710656/\(a0.length:Int)<=9223372036854775807) ((KV a0) ((Qzz (a0.length:Int).toNat (0:Int)),0))
theorem Uj{a0:AcC}{f:Value}(k:AJ .byte H f a0){r:(List Int)}(h:Kr a0=some r):
  Qqv 123 [f] w (fun v w'=>∃ u0,v=u0/\Ci 3 (.int .i64) H w w' u0 r):=by
 refine Az 22 [(0,f)] func123 Z fun hL=>Aj<|Qq (t:=23) Z k.one hL fun w1 y ab av _=>A7 1 Z<|Aj<|Ai (Ag 0 Z ab Z)<|Ai (Bk k)<|A1 h fun ao h=>Xv (r:=(.int .i64)) (z:=0) Ahx (fun _=>Z) hH ab ao fun v2 w2 ap ac aw aq=>A7 1 Z<|By ((List Int)×(List Value)) (fun⟨g,e⟩=>[(1,(Acy y)),(3,v2)]) (fun⟨g,e⟩ wr=>FI w [.row v2 3 1 (g).length e,.box y [f] 23] wr fun Oz=>AG (.int .i64) (gz H w wr Oz) g e/\(Io a0) g=some r) ?_ ?_
 ·refine Bt 1 Z<|Ai (Qm 0 Z ac Z)<|A7 1 Z<|A3 ?_;obtain⟨q,h⟩:=Ba h;refine B5 ((List Int)×Int×(List Value)×Nat) (fun⟨d,b,c,n⟩=>[(1,(Acy y)),(3,v2),(9,No ((Qzz (a0.length:Int).toNat (0:Int)).length:Int)),(10,No b)]) (fun⟨d,b,c,n⟩ wr=>FI w [.row v2 3 1 (d).length c,.box y [f] 23] wr fun Oz=>AG (.int .i64) (gz H w wr Oz) d c/\H8 (Eo a0) n (d,b)=some r) (fun⟨d,b,c,n⟩=>n) ((Qzz (a0.length:Int).toNat (0:Int)),0,ap,q) Z ⟨ac,aq,h⟩ ?_;rintro⟨d,b,c,nn36⟩ ax ⟨l,o,h⟩;obtain⟨q,a1,rfl,h,s⟩:=AY h;refine AI 1 Z<|AB<|AO h ?_ ?_<;>intro ad h
  ·refine Av<|Ar<|AB<|A3<|AI 2 Z<|As<|Aq 3 Z<|A1 h fun m h=>K6 0 Z Ahx CO.e l Z b.toNat (G1 m) (AX m) fun a2 ae=>K7 0 b.toNat b Z Z hH l Z o ae (AX m) Z fun a3 af ag ar ah=>AL<|A2<|Ar<|As<|A1 h fun ai h=>Ai (A6 ai)<|Aq 1 Z<|AL ?_;have h:=Ce.again h s;refine AM (_,_,_,_) Z ⟨ag,ah,h⟩
  refine B2<|AD<|A5 ?_;have h:=Ce.out h s;refine Bf<|AA (_,_) ⟨l,o,h⟩
 rintro⟨g,e⟩ ay ⟨u,p,h⟩;refine Bt 2 Z<|A1 h fun aj h=>?_;obtain⟨ak,al⟩:=aj;rw [ak] at u p;refine Aca (i:=0) (a:=a0) Z Z hH u Z p (k.mono  Ah) (AiI (i:=1) Z) al fun a4 az x au am=>Ac<|AI 2 Z<|Ay ?_
 cases h
 refine Al Z ⟨x.ext,_,Z,(x.Ii hH (i:=0) Z am)⟩
def Ks(a0:AcC):Option AjQ:=
 if 2048<(a0.length:Int) then Qq4 (Nx (3:Int) (-1:Int)) (fun a=>some ([],(a.1,a.2))) else Qq4 (Kr a0) (fun b=>some (b,(0,0)))
theorem Uk{a0:AcC}{b:Value}(d:AJ .byte H b a0){r:(List Int)×(Int×Int)}(h:Ks a0=some r):
  Qqv 74 [b] w (fun v w'=>∃ m,v=.tuple #[m,.agg #[No r.2.1,No r.2.2]]/\Ci 3 (.int .i64) H w w' m (r.1)):=by
 refine Az 11 [(0,b)] func74 Z fun hL=>Bt 1 Z<|A9 AF.e Z hL fun w1 b1 a u _=>Ac<|AB<|Bt 1 Z<|Ai (Bk d)<|A7 1 Z<|AO h ?_ ?_<;>intro o h
 ·refine Aj<|Aw h fun x4 p h=>AE a (Ui _ _ (An a) p) fun w5 aa q x=>Aq 1 Z<|Af 0 Z q Z fun w6 j y=>Ac<|Ay<|Ao ?_
  cases h
  refine Bu (.tmp Z) (.cell Z Aje Z AF.e (AH (i:=0) j Z)) ⟨j.ext,_,Z,Ci.nil⟩
 refine Av<|Ar<|Bt 1 Z<|Aw h fun x8 s h=>Bh a (Uj _ _ (An a) (d.mono  Ah) s) ?_;rintro z w9 ⟨_,rfl,f⟩ t k l;obtain⟨ab,k,l,e⟩:=f.take hH a t;refine Ai (AT (fun _=>BM _))<|Aq 1 Z<|Af 1 Z k Z fun ac c g=>Ac<|Ay ?_
 cases h
 refine Bu (.tmp Z) (.cell Z Aje Z AF.e (AH (i:=1) c Z)) ?_;have e:=e.mono (Aa g);exact⟨c.ext,_,Z,(c.Ii hH (i:=0) Z e)⟩
end
end Go.Proofs.YtekmbcbgknmhiaaGreatDoor
end
