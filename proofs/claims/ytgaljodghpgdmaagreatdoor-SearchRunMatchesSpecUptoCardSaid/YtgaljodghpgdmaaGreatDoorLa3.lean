/- Texts of a claim, merged. -/
import Derived.Test.YtgaljodghpgdmaaGreatDoorLa2
import Derived.KernelRfl
open Option renaming some->TI
open _root_.Go.Proofs.Tryz renaming underlying23→Jk,underlying24→LS,underlying39→QW,underlying47→VV,underlying63→VX,underlying88→PT,underlying101→WD,underlying105→Tk,underlying107→Z6
open Option renaming bind->Xd,bind_some->Wo,map->Sh
open List renaming getD_eq_getElem?_getD->Sb,getElem?_eq_getElem->Pa,length_cons->PF,length_map->Vx,replicate->Xk,length_append->T6,range->VO,length_take->Y4,length_nil->RZ,append_nil->R0,map_cons->Yu,length_drop->U1,pairwise_cons->QU,getElem_mem->Rs,length_singleton->T9,mem_range->PQ,append_assoc->YW,mem_map->Rr,getElem?_map->Y9,length_range->Z3,map_append->K4,getElem?_drop->Vk,nil_append->Qx,getElem?_eq_none->Xt,take_add_one->Vf,range_succ->Tl,length->XQ,length_pos_iff->Kh,mem_map_of_mem->Rz,countP_cons->QQ,map_map->Xc,pairwise_map->PO,countP_append->Ql,map_congr_left->Ur,countP_eq_zero->Se,countP_congr->Rx,countP_singleton->Tc,toList_toArray->TF,size_toArray->N6,getElem?_set->RN
open Int renaming toNat_natCast->SV
open Prod renaming fst->TJ
open Nat renaming le_refl->KN,zero_add->Q8,zero_le->Tg,add_sub_cancel->UW,mul_one->Z5,add_zero->Pf
open Bool renaming and_eq_true->ZA,false_eq_true->SQ,eq_iff_iff->Z8,or_eq_true->U2
open UInt8 renaming lt_iff_toNat_lt->QV,toNat_lt->Wm
open ByteArray renaming size->Vl
set_option linter.defProp false
set_option linter.unusedVariables false
set_option linter.unusedSimpArgs false
set_option linter.unusedSectionVars false
noncomputable section
namespace Go
abbrev RX:=SB×Zv
end Go
namespace Go
abbrev KP:=SB×Int
end Go
namespace Go.Proofs.YtgaljodghpgdmaaGreatDoor
open Go Go.E Go.RowKit Go.L
set_option maxHeartbeats 1000000
set_option maxRecDepth 10000
open _root_.Go.Proofs.Tryz
def UX(a0 a1:Int):Option Z7:=
 TI ((a0,a1))
section
variable(w:World)(H:PH)(hH:Le H (hp w)) include hH
theorem Qx3{a0 a1:Int}{r:Z7}(h:UX a0 a1=TI r):
  Pd 75 [No a0,No a1] w (λv w'=>v=.agg #[No r.1,No r.2]):=by
 refine Ai 8 [(0,No a0),(1,No a1)] func75 Z λhL=>A5<|Aq Av.e Z hL λe f b c _=>Af ?_;refine AJ (A8 (λ_=>Mr _ _ _))<|Ac 0 Z b Z λg a d=>Af ?_
 cases h
 refine Bz (.cell Z QW Z Av.e (box_pT 0 a Z)) ⟨a.ext,Z⟩
def Nz(a0:Wl)(a:SB):Option (SB):=
 Ay (a=Go.L.iota a0.length/\a0.length<4611686018427387904) (TI ((CK a0)))
def Ez(a0:Wl):SB×Int->Option (KP⊕(SB)):=λ⟨b,a⟩=>
 if a<((Xk (a0.length:Int).toNat (0:Int)).length:Int)then Ay (0<=a/\a<(b.length:Int)) (Ay (AL (a+1)) (TI (Sum.inl ((b.set a.toNat a),(a+1)))))else Sh Sum.inr ((Nz a0) b)
def Aj4(a0:Wl)(s:KP):Option (SB):=Go.L.run (Ez a0) s
def NV(a0:Wl):Option (SB):=
 Ay (0<=(a0.length:Int)/\((8:Nat):Int) * (a0.length:Int)<=281474976710656/\(a0.length:Int)<=9223372036854775807) ((Aj4 a0) ((Xk (a0.length:Int).toNat (0:Int)),0))
theorem Qzj{a0:Wl}{f:Value}(p:As .byte H f a0){r:SB}(h:NV a0=TI r):
  Pd 76 [f] w (λv w'=>∃u0,v=u0/\B2 3 (.int .i64) H w w' u0 r):=by
 refine Ai 22 [(0,f)] func76 Z λhL=>A5<|Su (t:=24) Z p.one hL λw1 y am au _=>Af ?_;refine Ag h λan h=>AaB (r:=(.int .i64)) (z:=0) VV (λ_=>Z) hH am an λv2 w2 ao ab av ap=>BJ 1 Z<|AA (SB×LR) (λ⟨g,e⟩=>[(1,(SX y)),(3,v2)]) (λ⟨g,e⟩ wr=>Cd w [.row v2 3 1 (g).length e,.box y [f] 24] wr λOz=>Ao (.int .i64) (gz H w wr Oz) g e/\(Nz a0) g=TI r) ?_ ?_
 ·refine FA 1 Z<|AJ (O1 0 Z ab Z)<|BJ 1 Z<|A4 ?_;obtain⟨q,h⟩:=Ax h;refine AF (SB×Int×LR×Nat) (λ⟨d,b,c,n⟩=>[(1,(SX y)),(3,v2),(9,No ((Xk (a0.length:Int).toNat (0:Int)).length:Int)),(10,No b)]) (λ⟨d,b,c,n⟩ wr=>Cd w [.row v2 3 1 (d).length c,.box y [f] 24] wr λOz=>Ao (.int .i64) (gz H w wr Oz) d c/\D6 (Ez a0) n (d,b)=TI r) (λ⟨d,b,c,n⟩=>n) ((Xk (a0.length:Int).toNat (0:Int)),0,ao,q) Z ⟨ab,ap,h⟩ ?_;rintro⟨d,b,c,nn36⟩ aw ⟨k,m,h⟩;obtain⟨q,a1,rfl,h,s⟩:=Aw h;refine AR ?_;refine Ar h ?_ ?_<;>intro ac h
  ·refine AR ?_;refine Ag h λl h=>CZ 0 Z VV DW.e k Z b.toNat (BP l) (An l) λa2 ad=>JR 0 b.toNat b Z Z hH k Z m ad (An l) Z λa3 ae af aq ag=>Ag h λax h=>Af ?_;have h:=AX.again h s;refine Ak (_,_,_,_) Z ⟨af,ag,h⟩
  have h:=AX.out h s;refine Af ?_;refine Am (_,_) ⟨k,m,h⟩
 rintro⟨g,e⟩ ay ⟨u,o,h⟩;refine FA 2 Z<|Ag h λah h=>?_;obtain⟨ai,aj⟩:=ah;rw[ai]at u o;refine AfO (i:=0) (a:=a0) Z Z hH u Z o (p.mono  Ad) (Anp (i:=1) Z) aj λa4 az x ar ak=>Af ?_
 cases h
 refine AD Z ⟨x.ext,_,Z,(x.Ev hH (i:=0) Z ak)⟩
def NW(a0:Wl):Option RX:=
 if 2048<(a0.length:Int)then Xd (UX (3:Int) (-1:Int)) (λa=>TI ([],(a.1,a.2)))else Xd (NV a0) (λb=>TI (b,(0,0)))
theorem Ad2{a0:Wl}{b:Value}(k:As .byte H b a0){r:RX}(h:NW a0=TI r):
  Pd 39 [b] w (λv w'=>∃m,v=.tuple #[m,.agg #[No r.2.1,No r.2.2]]/\B2 3 (.int .i64) H w w' m (r.1)):=by
 refine Ai 11 [(0,b)] func39 Z λhL=>FA 1 Z<|Aq Av.e Z hL λw1 b1 a u _=>AR ?_;refine Ar h ?_ ?_<;>intro o h
 ·refine A5<|Ah h λx4 p h=>Al a (Qx3 _ _ (Ae a) p) λw5 aa q x=>AK 1 Z<|Ac 0 Z q Z λw6 g y=>Af ?_
  cases h
  refine AP (.tmp Z) (.cell Z QW Z Av.e (box_pT 0 g Z)) ⟨g.ext,_,Z,B2.nil⟩
 refine Af ?_;refine Ah h λx8 s h=>A9 a (Qzj _ _ (Ae a) (k.mono  Ad) s) ?_;rintro z w9 ⟨_,rfl,e⟩ t j l;obtain⟨ab,j,l,d⟩:=e.take hH a t;refine AJ (A8 (λ_=>Bo _))<|AK 1 Z<|Ac 1 Z j Z λac c f=>Af ?_
 cases h
 refine AP (.tmp Z) (.cell Z QW Z Av.e (box_pT 1 c Z)) ?_;have d:=d.mono (Aa f);exact⟨c.ext,_,Z,(c.Ev hH (i:=0) Z d)⟩
end
end Go.Proofs.YtgaljodghpgdmaaGreatDoor
end
noncomputable section
namespace Go.L
open Go
theorem Qk:∀l m:Qm,Lib.compareBytes l m<0↔Op.bytesLess l m=true
 | [],[]=>by simp[Lib.compareBytes,Op.bytesLess]
 | [],_::_=>by simp[Lib.compareBytes,Op.bytesLess]
 | _::_,[]=>by simp[Lib.compareBytes,Op.bytesLess]
 | a::l,b::m=>by
  have ih:=Qk l m;unfold Lib.compareBytes Op.bytesLess
  by_cases c:a<b
  ·rw[Xu c];simp[c]
  ·rw[Pb c]
   by_cases h2:b<a
   ·have hne:a≠b:=λe=>by subst e;exact c h2
    rw[Xu h2];simp[c,hne]
   ·have e:a=b:=UO c h2;rw[Pb h2,ih];simp[c,e]
def lcp:Qm->Qm->Nat
 | a::l,b::m=>if a=b then lcp l m+1 else 0
 | _,_=>0
section
variable (a:Qm)
def AfP:(AfG a).Perm (RD a.length):=by rw[X8];exact List.mergeSort_perm _ _
def MX:(CK a).Perm (iota a.length):=by
 unfold CK;rw[<- ZX];exact(AfP a).map _
def MI:(CK a).length=a.length:=by rw[(MX a).length_eq,Gt]
def AhE{n:Nat}{x:Int}:x∈iota n↔0<=x/\x<n:=by
 unfold iota;rw[Rr]
 constructor
 ·rintro⟨i,hi,rfl⟩;have:=PQ.1 hi;omega
 ·intro h;exact⟨x.toNat,PQ.2 U,by omega⟩
def Y7{x:Int}:x∈CK a↔0<=x/\x<a.length:=by rw[(MX a).mem_iff,AhE]
def AdD(n:Nat):(iota n).Nodup:=by
 unfold iota List.Nodup;rw[PO];exact List.pairwise_lt_range.imp λh=>by omega
def AaV:(CK a).Nodup:=(MX a).symm.nodup (AdD _)
def TW:(CK a).Pairwise λx y=>Lib.compareBytes (a.drop x.toNat) (a.drop y.toNat)<0:=by
 have hO:=AeV (λx:Fin (a.length+1)=>a.drop x.val)
 have h:=List.pairwise_mergeSort (le:=λx y=>!(Go.Proofs.ltOf (Nv a)) y x) (λx y z b h2=>by
   simp only[Bool.not_eq_true']at *;exact hO.ntrans z y x h2 b) (λx y=>by
   have:=MV (a.drop y.val) (a.drop x.val)
   by_cases h:Lib.compareBytes (a.drop y.val) (a.drop x.val)<0
   ·have h' : ¬Lib.compareBytes (a.drop x.val) (a.drop y.val)<0:=by omega
    simp[Go.Proofs.ltOf,Nv,h']
   ·simp[Go.Proofs.ltOf,Nv,h]) (RD a.length)
 rw[<- X8]at h
 have hn:(AfG a).Nodup:=by
  have:=AaV a;unfold CK List.Nodup at this;rw[PO]at this;exact this.imp λh e=>h (by rw[e])
 unfold CK;rw[PO];have h2:=List.Pairwise.and h hn;refine h2.imp λ{x y} ⟨h3,c⟩=>?_
 replace h3 : ¬Lib.compareBytes (a.drop y.val) (a.drop x.val)<0:=by
  intro hc;have:Go.Proofs.ltOf (Nv a) y x=true:=by simp[Go.Proofs.ltOf,Nv,hc]
  rw[this]at h3;cases h3
 simp only[SV];have s:=MV (a.drop x.val) (a.drop y.val)
 rcases Int.lt_trichotomy (Lib.compareBytes (a.drop x.val) (a.drop y.val)) 0 with h | h | h
 ·exact h
 ·exact absurd (UQ a x y (UK (show ¬Lib.compareBytes (a.drop x.val) (a.drop y.val)<0 by omega)) (UK h3)) c
 ·omega
end
def pre(l p:Qm):Bool:=decide (l.take p.length=p)
def fs(a p:Qm):Nat->Nat×Nat
 | 0=>(0,0)
 | k+1=>if pre (a.drop k) p then((fs a p k).1,(fs a p k).2+1)else if Op.bytesLess (a.drop k) p then((fs a p k).1+1,(fs a p k).2)else fs a p k
def Ake(a p:Qm)(k:Nat):fs a p (k+1)=if pre (a.drop k) p then((fs a p k).1,(fs a p k).2+1)else if Op.bytesLess (a.drop k) p then((fs a p k).1+1,(fs a p k).2)else fs a p k:=Z
end Go.L
end
noncomputable section
namespace Go
abbrev TD:=Go.E.Rp.pair (Go.E.Rp.int .i64) (Go.E.Rp.int .i64)
end Go
namespace Go
abbrev Wn:=List Zv
end Go
namespace Go.Proofs.YtgaljodghpgdmaaGreatDoor
open Go Go.E Go.RowKit Go.L
set_option maxHeartbeats 1000000
set_option maxRecDepth 10000
open _root_.Go.Proofs.Tryz
def DG(a0 a1:Int):Option Z7:=
 TI ((a0,a1))
section
variable(w:World)(H:PH)(hH:Le H (hp w)) include hH
theorem C7{a0 a1:Int}{r:Z7}(h:DG a0 a1=TI r):
  Pd 43 [No a0,No a1] w (λv w'=>v=.agg #[No r.1,No r.2]):=by
 refine Ai 8 [(0,No a0),(1,No a1)] func43 Z λhL=>A5<|Aq Av.e Z hL λe f b c _=>Af ?_;refine AJ (A8 (λ_=>Mr _ _ _))<|Ac 0 Z b Z λg a d=>Af ?_
 cases h
 refine Bz (.cell Z QW Z Av.e (box_pT 0 a Z)) ⟨a.ext,Z⟩
def DH:Option Int:=
 TI ((-1))
def AO(a0:SB)(a1:Int):Int->Option ((Int)⊕(Int)):=λa=>
 if a<(a0.length:Int)then Ay (0<=a/\a<(a0.length:Int)) (if a1=a0.getD a.toNat Qq7 then Sh Sum.inr (TI a)else Ay (AL (a+1)) (TI (Sum.inl (a+1))))else Sh Sum.inr DH
def ET(a0:SB)(a1 s:Int):Option Int:=Go.L.run (AO a0 a1) s
def EG(a0:SB)(a1:Int):Option Int:=
 (ET a0 a1) (0:Int)
theorem Qk6{a0:SB}{a1:Int}{b:Value}(g:As (.int .i64) H b a0){r:Int}(h:EG a0 a1=TI r):
  Pd 204 [b,No a1] w (λv w'=>v=No r):=by
 refine Ai 19 [(0,b),(1,No a1)] func204 Z λhL=>Bx 1 Z<|AA Unit (λ(_:Unit)=>[]) (λ(_:Unit) wr=>AB w [] wr/\DH=TI r) ?_ ?_
 ·refine Af ?_;refine A4 ?_;obtain⟨e,h⟩:=Ax h;refine AF (Int×Nat) (λ⟨a,n⟩=>[(0,b),(1,No a1),(7,No (a0.length:Int)),(8,No a)]) (λ⟨a,n⟩ wr=>AB w [] wr/\D6 (AO a0 a1) n a=TI r) (λ⟨a,n⟩=>n) (0,e) Z ⟨hL,h⟩ ?_;rintro⟨a,nn36⟩ l ⟨c,h⟩;obtain⟨e,q,rfl,h,d⟩:=Aw h;refine AR ?_;refine Ar h ?_ ?_<;>intro i h
  ·refine AR ?_;refine Ag h λf h=>A1 g a.toNat (BP f) (An f) ?_;rintro s _ rfl j;refine sH j (hH.trans c.arg)<|BJ 1 Z<|Ar h ?_ ?_<;>intro k h
   ·have h:=AX.out h d;exact Bu
   refine Ag h λm h=>Af ?_;have h:=AX.again h d;refine Ak (_,_) Z ⟨c,h⟩
  have h:=AX.out h d;refine Af ?_;refine Am () ⟨c,h⟩
 rintro _ o ⟨p,h⟩;exact Bu
def By(a0:SB)(a1:Int):Option Bool:=
 Xd (EG a0 a1) (λa=>TI (decide (0<=a)))
theorem FI{a0:SB}{a1:Int}{a:Value}(b:As (.int .i64) H a a0){r:Bool}(h:By a0 a1=TI r):
  Pd 151 [a,No a1] w (λv w'=>v=.bool r):=by
 refine Ai 9 [(0,a),(1,No a1)] func151 Z λhL=>Af ?_;refine Ah h λg c h=>Al hL (Qk6 _ _ (Ae hL) (b.mono  Ad) c) λi e f d=>Bu
def Es:Option Int:=
 TI ((-1))
def Bw(a0:Wn)(a1:Int×Int):Int->Option ((Int)⊕(Int)):=λa=>
 if a<(a0.length:Int)then Ay (0<=a/\a<(a0.length:Int)) (if a1.1=(a0.getD a.toNat Qq7).1/\a1.2=(a0.getD a.toNat Qq7).2 then Sh Sum.inr (TI a)else Ay (AL (a+1)) (TI (Sum.inl (a+1))))else Sh Sum.inr Es
def GD(a0:Wn)(a1:Int×Int)(s:Int):Option Int:=Go.L.run (Bw a0 a1) s
def Ff(a0:Wn)(a1:Int×Int):Option Int:=
 (GD a0 a1) (0:Int)
theorem Qzz{a0:Wn}{a1:Int×Int}{b:Value}(i:As TD H b a0){r:Int}(h:Ff a0 a1=TI r):
  Pd 212 [b,.agg #[No a1.1,No a1.2]] w (λv w'=>v=No r):=by
 refine Ai 19 [(0,b),(1,.agg #[No a1.1,No a1.2])] func212 Z λhL=>A5<|B6 (t:=107) Z Z hL λw1 j u x _=>BJ 1 Z<|AA Unit (λ(_:Unit)=>[]) (λ(_:Unit) wr=>AB w [.box j [No a1.1,No a1.2] 107] wr/\Es=TI r) ?_ ?_
 ·refine Af ?_;refine A4 ?_;obtain⟨e,h⟩:=Ax h;refine AF (Int×Nat) (λ⟨a,n⟩=>[(0,b),(3,(SX j)),(7,No (a0.length:Int)),(8,No a)]) (λ⟨a,n⟩ wr=>AB w [.box j [No a1.1,No a1.2] 107] wr/\D6 (Bw a0 a1) n a=TI r) (λ⟨a,n⟩=>n) (0,e) Z ⟨u,h⟩ ?_;rintro⟨a,nn49⟩ y ⟨f,h⟩;obtain⟨e,ac,rfl,h,c⟩:=Aw h;refine AR ?_;refine Ar h ?_ ?_<;>intro k h
  ·refine AR ?_;refine BF (Zt 0 6 (.tail 6)) mixed SF (λad l=>?_);have d:=f.call l;refine Bh Z (C6 0 Z F1.e d Z) Z<|Br 2 Z<|Ag h λg h=>Cj Z Z Z PT i a.toNat (BP g) (An g) Z ?_;rintro ae _ ⟨_,_,rfl,rfl,rfl⟩ m;refine Bh Z (AU m (hH.trans d.arg)) Z<|Bh Z (W3 AlX (AmN _ _ _ _)) Z<|AT (λaf o=>?_);have p:=d.call o;refine Ap<|Ar h ?_ ?_<;>intro s h
   ·have h:=AX.out h c;exact Bu
   refine Ag h λz h=>Af ?_;have h:=AX.again h c;refine Ak (_,_) Z ⟨p,h⟩
  have h:=AX.out h c;refine Af ?_;refine Am () ⟨f,h⟩
 rintro _ aa ⟨ab,h⟩;exact Bu
def CJ(a0:Wn)(a1:Int×Int):Option Bool:=
 Xd (Ff a0 (a1.1,a1.2)) (λa=>TI (decide (0<=a)))
theorem Qxy{a0:Wn}{a1:Int×Int}{a:Value}(c:As TD H a a0){r:Bool}(h:CJ a0 a1=TI r):
  Pd 161 [a,.agg #[No a1.1,No a1.2]] w (λv w'=>v=.bool r):=by
 refine Ai 9 [(0,a),(1,.agg #[No a1.1,No a1.2])] func161 Z λhL=>A5<|B6 (t:=107) Z Z hL λj k b e _=>Af ?_;refine Ah h λl d h=>Al b (Qzz (a1:=(a1.1,a1.2)) _ _ (Ae b) (c.mono  Ad) d) λm g i f=>Bu
def EH:Option Int:=
 TI ((-1))
def BS(a0:List Wl)(a1:Wl):Int->Option ((Int)⊕(Int)):=λa=>
 if a<(a0.length:Int)then Ay (0<=a/\a<(a0.length:Int)) (if a1=a0.getD a.toNat Qq7 then Sh Sum.inr (TI a)else Ay (AL (a+1)) (TI (Sum.inl (a+1))))else Sh Sum.inr EH
def Hn(a0:List Wl)(a1:Wl)(s:Int):Option Int:=Go.L.run (BS a0 a1) s
def FJ(a0:List Wl)(a1:Wl):Option Int:=
 (Hn a0 a1) (0:Int)
theorem Qz2{a0:List Wl}{a1:Wl}{b:Value}(g:As .st H b a0){r:Int}(h:FJ a0 a1=TI r):
  Pd 229 [b,Pg a1] w (λv w'=>v=No r):=by
 refine Ai 19 [(0,b),(1,(Pg a1))] func229 Z λhL=>Bx 1 Z<|AA Unit (λ(_:Unit)=>[]) (λ(_:Unit) wr=>AB w [] wr/\EH=TI r) ?_ ?_
 ·refine Af ?_;refine A4 ?_;obtain⟨e,h⟩:=Ax h;refine AF (Int×Nat) (λ⟨a,n⟩=>[(0,b),(1,(Pg a1)),(7,No (a0.length:Int)),(8,No a)]) (λ⟨a,n⟩ wr=>AB w [] wr/\D6 (BS a0 a1) n a=TI r) (λ⟨a,n⟩=>n) (0,e) Z ⟨hL,h⟩ ?_;rintro⟨a,nn36⟩ l ⟨c,h⟩;obtain⟨e,q,rfl,h,d⟩:=Aw h;refine AR ?_;refine Ar h ?_ ?_<;>intro i h
  ·refine AR ?_;refine Ag h λf h=>A1 g a.toNat (BP f) (An f) ?_;rintro s _ rfl j;refine sH j (hH.trans c.arg)<|AJ (I5 Z Z)<|Ap<|Ar h ?_ ?_<;>intro k h
   ·have h:=AX.out h d;exact Bu
   refine Ag h λm h=>Af ?_;have h:=AX.again h d;refine Ak (_,_) Z ⟨c,h⟩
  have h:=AX.out h d;refine Af ?_;refine Am () ⟨c,h⟩
 rintro _ o ⟨p,h⟩;exact Bu
def Df(a0:List Wl)(a1:Wl):Option Bool:=
 Xd (FJ a0 a1) (λa=>TI (decide (0<=a)))
theorem AlE{a0:List Wl}{a1:Wl}{a:Value}(b:As .st H a a0){r:Bool}(h:Df a0 a1=TI r):
  Pd 177 [a,Pg a1] w (λv w'=>v=.bool r):=by
 refine Ai 9 [(0,a),(1,(Pg a1))] func177 Z λhL=>Af ?_;refine Ah h λg c h=>Al hL (Qz2 _ _ (Ae hL) (b.mono  Ad) c) λi e f d=>Bu
def Hu(a0:Wl):Option Wl:=
 Ay (Go.E.Dx 1 (([]:Wl).length+a0.length)) (TI ((([]:Wl)++a0)))
theorem JC{a0:Wl}{a:Value}(b:As .byte H a a0){r:Wl}(h:Hu a0=TI r):
  Pd 105 [a] w (λv w'=>∃d,v=d/\B2 5 .byte H w w' d r):=by
 refine Ai 8 [(0,a)] func105 Z λhL=>AR ?_
 rcases Zp b with ⟨rfl,rfl⟩ | hnn
 ·refine AJ Y6<|Ap<|Cm ?_;obtain⟨_,h⟩:=Fp h;obtain rfl:=Option.some.inj h;refine Af ?_;refine AD Z ⟨hL.ext,_,Z,WV _ hL hH⟩
 refine AJ (RR hnn)<|Ap<|BO<|Af ?_;refine KY ([]:Wl) (r:=.byte) (λ_=>AjS _) (Bk 0) hH hL .nil λs t p e k f=>AK 1 Z<|Ag h λg h=>Bf (r:=.byte) 0 ([]:Wl) a0 Z LS e Z f (b.mono  Ad) g λu x q c o j=>Af ?_
 cases h
 refine AD Z ⟨c.ext,_,Z,(c.Ev hH (i:=0) Z j)⟩
def Fg(a0:Wn):Option (Wn):=
 Ay (Go.E.Dx 16 (([]:Wn).length+a0.length)) (TI ((([]:Wn)++a0)))
theorem Adq{a0:Wn}{a:Value}(b:As TD H a a0){r:Wn}(h:Fg a0=TI r):
  Pd 159 [a] w (λv w'=>∃d,v=d/\B2 107 TD H w w' d r):=by
 refine Ai 8 [(0,a)] func159 Z λhL=>AR ?_
 rcases Zp b with ⟨rfl,rfl⟩ | hnn
 ·refine AJ Y6<|Ap<|Cm ?_;obtain⟨_,h⟩:=Fp h;obtain rfl:=Option.some.inj h;refine Af ?_;refine AD Z ⟨hL.ext,_,Z,WV _ hL hH⟩
 refine AJ (RR hnn)<|Ap<|BO<|Af ?_;refine KY ([]:Wn) (r:=TD) (λ_=>AjX _) (Bk 0) hH hL .nil λs t p e k f=>AK 1 Z<|Ag h λg h=>Bf (r:=TD) 0 ([]:Wn) a0 Z PT e Z f (b.mono  Ad) g λu x q c o j=>Af ?_
 cases h
 refine AD Z ⟨c.ext,_,Z,(c.Ev hH (i:=0) Z j)⟩
def IQ(a0:SB):Option (SB):=
 Ay (Go.E.Dx 8 (([]:SB).length+a0.length)) (TI ((([]:SB)++a0)))
theorem Qq9{a0:SB}{a:Value}(b:As (.int .i64) H a a0){r:SB}(h:IQ a0=TI r):
  Pd 92 [a] w (λv w'=>∃d,v=d/\B2 3 (.int .i64) H w w' d r):=by
 refine Ai 8 [(0,a)] func92 Z λhL=>AR ?_
 rcases Zp b with ⟨rfl,rfl⟩ | hnn
 ·refine AJ Y6<|Ap<|Cm ?_;obtain⟨_,h⟩:=Fp h;obtain rfl:=Option.some.inj h;refine Af ?_;refine AD Z ⟨hL.ext,_,Z,WV _ hL hH⟩
 refine AJ (RR hnn)<|Ap<|BO<|Af ?_;refine KY ([]:SB) (r:=(.int .i64)) (λ_=>AjW _) (Bk 0) hH hL .nil λs t p e k f=>AK 1 Z<|Ag h λg h=>Bf (r:=(.int .i64)) 0 ([]:SB) a0 Z VV e Z f (b.mono  Ad) g λu x q c o j=>Af ?_
 cases h
 refine AD Z ⟨c.ext,_,Z,(c.Ev hH (i:=0) Z j)⟩
def Ed(a0:List Wl):Option ((List Wl)):=
 Ay (Go.E.Dx 16 (([]:List Wl).length+a0.length)) (TI ((([]:List Wl)++a0)))
theorem EI{a0:List Wl}{a:Value}(b:As .st H a a0){r:(List Wl)}(h:Ed a0=TI r):
  Pd 89 [a] w (λv w'=>∃d,v=d/\B2 9 .st H w w' d r):=by
 refine Ai 8 [(0,a)] func89 Z λhL=>AR ?_
 rcases Zp b with ⟨rfl,rfl⟩ | hnn
 ·refine AJ Y6<|Ap<|Cm ?_;obtain⟨_,h⟩:=Fp h;obtain rfl:=Option.some.inj h;refine Af ?_;refine AD Z ⟨hL.ext,_,Z,WV _ hL hH⟩
 refine AJ (RR hnn)<|Ap<|BO<|Af ?_;refine KY ([]:List Wl) (r:=.st) (λ_=>AjR _) (Bk 0) hH hL .nil λs t p e k f=>AK 1 Z<|Ag h λg h=>Bf (r:=.st) 0 ([]:List Wl) a0 Z Jk e Z f (b.mono  Ad) g λu x q c o j=>Af ?_
 cases h
 refine AD Z ⟨c.ext,_,Z,(c.Ev hH (i:=0) Z j)⟩
def E0(a b:Int):Option Int:=
 Ay (0<=((Go.L.u8 a).toNat:Int)/\((Go.L.u8 a).toNat:Int)<(([0,1,2,2,3,3,3,3,4,4,4,4,4,4,4,4,5,5,5,5,5,5,5,5,5,5,5,5,5,5,5,5,6,6,6,6,6,6,6,6,6,6,6,6,6,6,6,6,6,6,6,6,6,6,6,6,6,6,6,6,6,6,6,6,7,7,7,7,7,7,7,7,7,7,7,7,7,7,7,7,7,7,7,7,7,7,7,7,7,7,7,7,7,7,7,7,7,7,7,7,7,7,7,7,7,7,7,7,7,7,7,7,7,7,7,7,7,7,7,7,7,7,7,7,7,7,7,7,8,8,8,8,8,8,8,8,8,8,8,8,8,8,8,8,8,8,8,8,8,8,8,8,8,8,8,8,8,8,8,8,8,8,8,8,8,8,8,8,8,8,8,8,8,8,8,8,8,8,8,8,8,8,8,8,8,8,8,8,8,8,8,8,8,8,8,8,8,8,8,8,8,8,8,8,8,8,8,8,8,8,8,8,8,8,8,8,8,8,8,8,8,8,8,8,8,8,8,8,8,8,8,8,8,8,8,8,8,8,8,8,8,8,8,8,8,8,8,8,8,8,8,8,8,8,8,8]:Wl).length:Int)) (Ay (AL (b+((([0,1,2,2,3,3,3,3,4,4,4,4,4,4,4,4,5,5,5,5,5,5,5,5,5,5,5,5,5,5,5,5,6,6,6,6,6,6,6,6,6,6,6,6,6,6,6,6,6,6,6,6,6,6,6,6,6,6,6,6,6,6,6,6,7,7,7,7,7,7,7,7,7,7,7,7,7,7,7,7,7,7,7,7,7,7,7,7,7,7,7,7,7,7,7,7,7,7,7,7,7,7,7,7,7,7,7,7,7,7,7,7,7,7,7,7,7,7,7,7,7,7,7,7,7,7,7,7,8,8,8,8,8,8,8,8,8,8,8,8,8,8,8,8,8,8,8,8,8,8,8,8,8,8,8,8,8,8,8,8,8,8,8,8,8,8,8,8,8,8,8,8,8,8,8,8,8,8,8,8,8,8,8,8,8,8,8,8,8,8,8,8,8,8,8,8,8,8,8,8,8,8,8,8,8,8,8,8,8,8,8,8,8,8,8,8,8,8,8,8,8,8,8,8,8,8,8,8,8,8,8,8,8,8,8,8,8,8,8,8,8,8,8,8,8,8,8,8,8,8,8,8,8,8,8,8]:Wl).getD ((Go.L.u8 a).toNat:Int).toNat Qq7).toNat:Int))) (TI ((b+((([0,1,2,2,3,3,3,3,4,4,4,4,4,4,4,4,5,5,5,5,5,5,5,5,5,5,5,5,5,5,5,5,6,6,6,6,6,6,6,6,6,6,6,6,6,6,6,6,6,6,6,6,6,6,6,6,6,6,6,6,6,6,6,6,7,7,7,7,7,7,7,7,7,7,7,7,7,7,7,7,7,7,7,7,7,7,7,7,7,7,7,7,7,7,7,7,7,7,7,7,7,7,7,7,7,7,7,7,7,7,7,7,7,7,7,7,7,7,7,7,7,7,7,7,7,7,7,7,8,8,8,8,8,8,8,8,8,8,8,8,8,8,8,8,8,8,8,8,8,8,8,8,8,8,8,8,8,8,8,8,8,8,8,8,8,8,8,8,8,8,8,8,8,8,8,8,8,8,8,8,8,8,8,8,8,8,8,8,8,8,8,8,8,8,8,8,8,8,8,8,8,8,8,8,8,8,8,8,8,8,8,8,8,8,8,8,8,8,8,8,8,8,8,8,8,8,8,8,8,8,8,8,8,8,8,8,8,8,8,8,8,8,8,8,8,8,8,8,8,8,8,8,8,8,8,8]:Wl).getD ((Go.L.u8 a).toNat:Int).toNat Qq7).toNat:Int)))))
def Hv(a b:Int):Option Int:=
 if 256<=a then Ay (AL (b+8)) (E0 (a / 256) (b+8))else E0 a b
def Hw(a b:Int):Option Int:=
 if 65536<=a then Ay (AL (b+16)) (Hv (a / 65536) (b+16))else Hv a b
def Ks(a0:Int):Option Int:=
 if 4294967296<=a0 then Hw (a0 / 4294967296) (32:Int)else Hw a0 (0:Int)
theorem Qke{a0 r:Int}(h:Ks a0=TI r):
  Pd 182 [.int .u64 a0] w (λv w'=>v=No r):=by
 refine Ai 25 [(0,.int .u64 a0)] func182 Z λhL=>Bx 1 Z<|AA Zv (λ⟨d,e⟩=>[(0,.int .u64 d),(2,No e)]) (λ⟨d,e⟩ wr=>AB w [] wr/\Hw d e=TI r) ?_ ?_
 ·refine Bx 2 Z<|Ar h ?_ ?_<;>intro p h
  ·refine FA 1 Z<|AJ (XZ (c:=32) (m:=4294967296) Z Z Y5)<|Af ?_;refine Am (_,_) ⟨hL,h⟩
  refine Ca<|Am (_,_) ⟨hL,h⟩
 rintro⟨d,e⟩ z ⟨j,h⟩;refine AA Zv (λ⟨a,b⟩=>[(0,.int .u64 a),(2,No b)]) (λ⟨a,b⟩ wr=>AB w [] wr/\Hv a b=TI r) ?_ ?_
 ·refine Bx 2 Z<|Ar h ?_ ?_<;>intro k h
  ·refine FA 1 Z<|AJ (XZ (c:=16) (m:=65536) Z Z Y5)<|Ag h λq h=>Af ?_;refine Am (_,_) ⟨j,h⟩
  refine Ca<|Am (_,_) ⟨j,h⟩
 rintro⟨a,b⟩ s ⟨i,h⟩;refine AA Zv (λ⟨f,g⟩=>[(0,.int .u64 f),(2,No g)]) (λ⟨f,g⟩ wr=>AB w [] wr/\E0 f g=TI r) ?_ ?_
 ·refine Bx 2 Z<|Ar h ?_ ?_<;>intro l h
  ·refine FA 1 Z<|AJ (XZ (c:=8) (m:=256) Z Z Y5)<|Ag h λt h=>Af ?_;refine Am (_,_) ⟨i,h⟩
  refine Ca<|Am (_,_) ⟨i,h⟩
 rintro⟨f,g⟩ u ⟨x,h⟩;refine FA 2 Z<|AJ (Er (G7 _))<|Ag h λo h=>AJ (Mo o)<|AJ (Er (GQ _))<|Ag h λy h=>Bu
def PD(a0:Int):Option Int:=
 Xd (Ks a0) (λa=>TI a)
theorem Qk5{a0 r:Int}(h:PD a0=TI r):
  Pd 136 [.int .u64 a0] w (λv w'=>v=No r):=by
 refine Ai 8 [(0,.int .u64 a0)] func136 Z λhL=>AR ?_;refine BO<|Af ?_;refine Ah h λe a h=>Al hL (Qke _ _ (Ae hL) a) λf c d b=>Bu
def GW(a0:Int):Option Int:=
 if a0<1 then TI (0)else Xd (PD (IntKind.u64.wrap a0)) (λa=>Ay (AL (2 * a)) (Ay (AL ((2 * a) - 1)) (TI (((2 * a) - 1)))))
theorem Qk8{a0 r:Int}(h:GW a0=TI r):
  Pd 87 [No a0] w (λv w'=>v=No r):=by
 refine Ai 10 [(0,No a0)] func87 Z λhL=>AR ?_;refine Ar h ?_ ?_<;>intro a h
 ·exact Bu
 refine Af ?_;refine AJ (Er Z)<|Ah h λi b h=>Al hL (Qk5 _ _ (Ae hL) b) λj d e c=>Ag h λf h=>Ag h λg h=>Bu
end
end Go.Proofs.YtgaljodghpgdmaaGreatDoor
end
noncomputable section
namespace Go
abbrev SU:=SB×Int×Int
end Go
namespace Go
abbrev TE:=Int×Zv
end Go
namespace Go
abbrev YK:=(SB)×SB×SB
end Go
namespace Go.Proofs.YtgaljodghpgdmaaGreatDoor
open Go Go.E Go.RowKit Go.L
set_option maxHeartbeats 1000000
set_option maxRecDepth 10000
open _root_.Go.Proofs.Tryz
def PE(a0 a1:Int):Option Z7:=
 TI ((a0,a1))
section
variable(w:World)(H:PH)(hH:Le H (hp w)) include hH
theorem Aeu{a0 a1:Int}{r:Z7}(h:PE a0 a1=TI r):
  Pd 104 [No a0,No a1] w (λv w'=>v=.agg #[No r.1,No r.2]):=by
 refine Ai 8 [(0,No a0),(1,No a1)] func104 Z λhL=>A5<|Aq Av.e Z hL λe f b c _=>Af ?_;refine AJ (A8 (λ_=>Mr _ _ _))<|Ac 0 Z b Z λg a d=>Af ?_
 cases h
 refine Bz (.cell Z QW Z Av.e (box_pT 0 a Z)) ⟨a.ext,Z⟩
def Ee(a0:SB):Option Int:=
 TI ((max (a0.length:Int) (1:Int)))
theorem JD{a0:SB}{a:Value}(b:As (.int .i64) H a a0){r:Int}(h:Ee a0=TI r):
  Pd 103 [.agg #[a]] w (λv w'=>v=No r):=by
 refine Ai 7 [(0,.agg #[a])] func103 Z λhL=>A5<|B6 (t:=61) Z Z hL λe f d c _=>Af ?_;refine AJ (AgT Z Z)<|Bu
def EJ(a0:YK):Option Int:=
 Xd (Ee a0.1) (λa=>Ay (AL (a - 1)) (TI ((a - 1))))
theorem EU(a0:YK){a b c:Value}(e:As (.int .i64) H a (a0.1))(_h0_1:As (.int .i64) H b (a0.2.1))(_h0_2:As (.int .i64) H c (a0.2.2)){r:Int}(h:EJ a0=TI r):
  Pd 54 [.agg #[a,b,c]] w (λv w'=>v=No r):=by
 refine Ai 7 [(0,.agg #[a,b,c])] func54 Z λhL=>A5<|B6 (t:=63) Z Z hL λm o d g _=>Af ?_;refine AJ (GR 0 1 Z Ahx.e d Z Z)<|Ah h λp f h=>Al d (JD (a0:=a0.1) _ _ (Ae d) (e.mono  Ad) f) λq j k i=>Ag h λl h=>Bu
def Cc(a0:SB)(a1 a3 b a c d:Int):Option ((Int×Int×Int×Int)⊕Zv):=
 if(a0.getD a.toNat Qq7=a1)/\(a<a3)then Ay (AL (b+1)) (Ay (AL (a+1)) (TI (Sum.inl (c,d,(b+1),(a+1)))))else Ay (AL (a+1)) (TI (Sum.inl (c,d,b,(a+1))))
def Gf(a b c:Int):Option Zv:=
 Ay (AL (a+b)) (Ay (AL (a+c)) (TI ((a+b),(a+c))))
def CL(a0:SB)(a1 a2 a3:Int):Int×Int×Int×Int->Option ((Int×Int×Int×Int)⊕Zv):=λ⟨b,c,d,a⟩=>
 if a<(a0.length:Int)then Ay (0<=a/\a<(a0.length:Int)) (if a0.getD a.toNat Qq7=(-1)then(Cc a0 a1 a3 d a) b c else(if a0.getD a.toNat Qq7<a1 then Ay (AL (b+1)) ((Cc a0 a1 a3 d a) (b+1) c)else(if(a0.getD a.toNat Qq7=a1)/\(a<a2)then Ay (AL (c+1)) ((Cc a0 a1 a3 d a) b (c+1))else(Cc a0 a1 a3 d a) b c)))else Sh Sum.inr (Gf b c d)
def Qqw(a0:SB)(a1 a2 a3:Int)(s:Int×Int×Int×Int):Option Zv:=Go.L.run (CL a0 a1 a2 a3) s
def Hx(a0:SB)(a1 a2 a3:Int):Option Zv:=
 (Qqw a0 a1 a2 a3) (1,0,0,0)
theorem NI2{a0:SB}{a1 a2 a3:Int}{g:Value}(z:As (.int .i64) H g a0){r:Int×Int}(h:Hx a0 a1 a2 a3=TI r):
  Pd 214 [.agg #[g],No a1,No a2,No a3] w (λv w'=>v=.tuple #[No r.1,No r.2]):=by
 refine Ai 60 [(0,.agg #[g]),(1,No a1),(2,No a2),(3,No a3)] func214 Z λhL=>A5<|B6 (t:=61) Z Z hL λw1 b1 ad an _=>Af ?_;refine AA (Int×Int×Int) (λ⟨i,j,k⟩=>[(10,No i),(11,No j),(12,No k)]) (λ⟨i,j,k⟩ wr=>AB w [.box b1 [g] 61] wr/\Gf i j k=TI r) ?_ ?_
 ·refine Af ?_;refine A4 ?_;obtain⟨o,h⟩:=Ax h;refine AF (Int×Int×Int×Int×Nat) (λ⟨b,c,d,a,n⟩=>[(1,No a1),(2,No a2),(3,No a3),(10,No b),(11,No c),(12,No d),(16,g),(17,No (a0.length:Int)),(18,No a)]) (λ⟨b,c,d,a,n⟩ wr=>AB w [.box b1 [g] 61] wr/\D6 (CL a0 a1 a2 a3) n (b,c,d,a)=TI r) (λ⟨b,c,d,a,n⟩=>n) (1,0,0,0,o) Z ⟨ad,h⟩ ?_;rintro⟨b,c,d,a,nn94⟩ ao ⟨l,h⟩;obtain⟨o,ae,rfl,h,m⟩:=Aw h;refine AR ?_;refine Ar h ?_ ?_<;>intro ab h
  ·refine AR ?_;refine Ag h λq h=>A1 z a.toNat (BP q) (An q) ?_;rintro ar _ rfl ac;refine sH ac (hH.trans l.arg)<|BJ 2 Z<|AA Zv (λ⟨e,f⟩=>[(1,No a1),(2,No a2),(3,No a3),(10,No e),(11,No f),(12,No d),(13,No a),(14,No (a0.getD a.toNat Qq7)),(16,g),(17,No (a0.length:Int)),(18,No a)]) (λ⟨e,f⟩ wr=>AB w [.box b1 [g] 61] wr/\(Cc a0 a1 a3 d a) e f=TI ae) ?_ ?_
   ·refine AR ?_;refine Ar h ?_ ?_<;>intro s h
    ·refine Af ?_;refine Am (_,_) ⟨l,h⟩
    refine Bx 4 Z<|Ar h ?_ ?_<;>intro u h
    ·refine Ag h λaf h=>Af ?_;refine Am (_,_) ⟨l,h⟩
    refine FA 4 Z<|NC 3 3 Z Z Z Z Z Z<|BJ 1 Z<|Ar h ?_ ?_<;>intro x h
    ·refine Ag h λag h=>Af ?_;refine Am (_,_) ⟨l,h⟩
    refine Af ?_;refine Am (_,_) ⟨l,h⟩
   rintro⟨e,f⟩ ah ⟨p,h⟩;refine FA 4 Z<|NC 3 3 Z Z Z Z Z Z<|Ap<|Ar h ?_ ?_<;>intro y h
   ·refine Ag h λai h=>Ag h λaj h=>Af ?_;have h:=AX.again h m;refine Ak (_,_,_,_,_) Z ⟨p,h⟩
   refine Ag h λak h=>Af ?_;have h:=AX.again h m;refine Ak (_,_,_,_,_) Z ⟨p,h⟩
  have h:=AX.out h m;refine Af ?_;refine Am (_,_,_) ⟨l,h⟩
 rintro⟨i,j,k⟩ ap ⟨aq,h⟩;refine Ag h λal h=>Ag h λam h=>Bu
def FY(a b:Int):Option (Int×Int×Zv):=
 TI (a,(max a b),(0,0))
def Cg(a0:YK)(a1:Wl):Int×Int×Int->Option ((Int×Int×Int)⊕(Int×Int×Zv)):=λ⟨b,c,a⟩=>
 if(0<=a)/\(b<c)then Ay (0<=a/\a<(a1.length:Int)) (Xd (Hx a0.1 ((a1.getD a.toNat Qq7).toNat:Int) b c) (λd=>Ay (AL (a - 1)) (TI (Sum.inl (d.1,d.2,(a - 1))))))else Sh Sum.inr (FY b c)
def It(a0:YK)(a1:Wl)(s:Int×Int×Int):Option (Int×Int×Zv):=Go.L.run (Cg a0 a1) s
def FK(a0:YK)(a1:Wl):Option (Int×Int×Zv):=
 if(a1.length:Int)=0 then Xd (PE (10:Int) (-1:Int)) (λb=>TI (0,0,(b.1,b.2)))else(if 64<(a1.length:Int)then Xd (PE (3:Int) (-1:Int)) (λa=>TI (0,0,(a.1,a.2)))else Xd (Ee a0.1) (λc=>Ay (AL ((a1.length:Int) - 1)) ((It a0 a1) (0,c,((a1.length:Int) - 1)))))
theorem Qz3{a0:YK}{a1:Wl}{f g i k:Value}(m:As (.int .i64) H f (a0.1))(_h0_1:As (.int .i64) H g (a0.2.1))(_h0_2:As (.int .i64) H i (a0.2.2))(ae:As .byte H k a1){r:Int×Int×Zv}(h:FK a0 a1=TI r):
  Pd 164 [.agg #[f,g,i],k] w (λv w'=>v=.tuple #[No r.1,No r.2.1,.agg #[No r.2.2.1,No r.2.2.2]]):=by
 refine Ai 51 [(0,.agg #[f,g,i]),(1,k)] func164 Z λhL=>A5<|B6 (t:=63) Z Z hL λw1 b1 au a7 _=>AK 2 Z<|Aq Av.e Z au λw2 z j a8 _=>AR ?_;refine Ar h ?_ ?_<;>intro av h
 ·refine A5<|Ah h λx5 aw h=>Al j (Aeu _ _ (Ae j) aw) λw6 bh ax a9=>AK 2 Z<|Ac 0 Z ax Z λw7 ab ba=>Af ?_
  cases h
  refine Aa9 (.tmp Z) (.tmp Z) (.cell Z QW Z Av.e (box_pT 0 ab Z)) ⟨ab.ext,Z⟩
 refine AR ?_;refine Ar h ?_ ?_<;>intro ay h
 ·refine A5<|Ah h λbi ag h=>Al j (Aeu _ _ (Ae j) ag) λbj bb ah a3=>AK 2 Z<|Ac 0 Z ah Z λbk o a4=>Af ?_
  cases h
  refine Aa9 (.tmp Z) (.tmp Z) (.cell Z QW Z Av.e (box_pT 0 o Z)) ⟨o.ext,Z⟩
 refine Af ?_;refine AJ (GR 1 1 Z Ahx.e j Z Z)<|Ah h λaz ai h=>Al j (JD (a0:=a0.1) _ _ (Ae j) (m.mono  Ad) ai) λbl bc aj a5=>BJ 2 Z<|AA Zv (λ⟨d,e⟩=>[(6,(SX z)),(7,No d),(8,No e)]) (λ⟨d,e⟩ wr=>AB w [.box z [No 0,No 0] 39,.box b1 [f,g,i] 63] wr/\FY d e=TI r) ?_ ?_
 ·refine Ag h λbd h=>Af ?_;refine A4 ?_;obtain⟨p,h⟩:=Ax h;refine AF (Int×Int×Int×Nat) (λ⟨b,c,a,n⟩=>[(1,k),(2,(SX b1)),(6,(SX z)),(7,No b),(8,No c),(9,No a)]) (λ⟨b,c,a,n⟩ wr=>AB w [.box z [No 0,No 0] 39,.box b1 [f,g,i] 63] wr/\D6 (Cg a0 a1) n (b,c,a)=TI r) (λ⟨b,c,a,n⟩=>n) (0,az,((a1.length:Int) - 1),p) Z ⟨aj,h⟩ ?_;rintro⟨b,c,a,nn69⟩ be ⟨s,h⟩;obtain⟨p,bm,rfl,h,u⟩:=Aw h;refine AR ?_;refine NC 3 2 Z Z Z Z Z Z<|Ap<|Ar h ?_ ?_<;>intro ak h
  ·refine AR ?_;refine P8 (Zt 0 15 (.tail 15)) mixed SF (λa2 al=>?_);have l:=s.call al;refine Bh Z (A7 Z VX Z Ahx.e) Z<|Bh Z (GR 1 1 Z Ahx.e l Z Z) Z<|Br 2 Z<|Ag h λx h=>Cj Z Z Z LS ae a.toNat (BP x) (An x) Z ?_;rintro bn _ rfl am;refine Bh Z (B5 am (hH.trans l.arg)) Z<|Bh Z (Er (GQ _)) Z<|Br 2 Z<|Ah h λac an h=>?_;have aa:=(λ(ad:World) (ao:Ext a2 ad)=>NI2 ad _ (Le.refl _) ((m.mono (hH.trans l.arg)).mono ao.le) an);refine DY Z Z Z aa<|Br 5 Z<|AT (λbo ap=>?_);have aq:=l.call ap;refine Ag h λbf h=>Af ?_;have h:=AX.again h u;refine Ak (_,_,_,_) Z ⟨aq,h⟩
  have h:=AX.out h u;refine Af ?_;refine Am (_,_) ⟨s,h⟩
 rintro⟨d,e⟩ bg ⟨ar,h⟩;refine FA 3 Z<|AJ (AgT Z Z)<|AJ (A8 (λ_=>Bo _))<|AK 2 Z<|Ac 0 Z ar Z λbp y a6=>Af ?_
 cases h
 refine Aa9 (.tmp Z) (.tmp Z) (.cell Z QW Z Av.e (box_pT 0 y Z)) ⟨y.ext,Z⟩
def Dc(a0:YK)(a1:Wl):Option TE:=
 Xd (FK (a0.1,a0.2.1,a0.2.2) a1) (λa=>Ay (AL (a.2.1 - a.1)) (TI ((a.2.1 - a.1),(a.2.2.1,a.2.2.2))))
theorem OkF{a0:YK}{a1:Wl}{a b c d:Value}(i:As (.int .i64) H a (a0.1))(j:As (.int .i64) H b (a0.2.1))(k:As (.int .i64) H c (a0.2.2))(l:As .byte H d a1){r:TE}(h:Dc a0 a1=TI r):
  Pd 114 [.agg #[a,b,c],d] w (λv w'=>v=.tuple #[No r.1,.agg #[No r.2.1,No r.2.2]]):=by
 refine Ai 20 [(0,.agg #[a,b,c]),(1,d)] func114 Z λhL=>A5<|B6 (t:=63) Z Z hL λw1 b1 p ac _=>AK 1 Z<|Aq Av.e Z p λw2 b2 f ad _=>Af ?_;refine Ah h λx3 s h=>Al f (Qz3 (a0:=(a0.1,a0.2.1,a0.2.2)) _ _ (Ae f) (i.mono  Ad) (j.mono  Ad) (k.mono  Ad) (l.mono  Ad) s) λw4 ah u ae=>AK 4 Z<|Aq Av.e Z u λw5 b5 x af _=>AK 2 Z<|Ac 0 Z x Z λw6 y ag=>Ap<|BF (Zt 0 5 (.tail 5)) mixed SF (λw7 z=>?_);have g:=y.call z;refine Br 2 Z<|Ag h λaa h=>Bh Z (Gq aa) Z<|Bh Z (C6 0 Z Av.e g Z) Z<|Br 1 Z<|AT (λai m=>?_);have o:=g.call m;refine Ac 1 Z o Z λaj e ab=>Af ?_
 cases h
 refine AP (.tmp Z) (.cell Z QW Z Av.e (box_pT 1 e Z)) ⟨e.ext,Z⟩
def LX(a:Wl):Option Wl:=
 TI a
def Lj(a0:YK):Wl×Int×Int->Option ((Wl×Int×Int)⊕(Wl)):=λ⟨c,a,b⟩=>
 if 0<=b then Ay (0<=a/\a<(a0.1.length:Int)) (Ay (0<=b/\b<(c.length:Int)) (Ay (0<=a/\a<(a0.2.1.length:Int)) (Ay (AL (b - 1)) (TI (Sum.inl ((c.set b.toNat (Go.L.u8 (a0.1.getD a.toNat Qq7))),a0.2.1.getD a.toNat Qq7,(b - 1)))))))else Sh Sum.inr (LX c)
def Qxu(a0:YK)(s:Wl×Int×Int):Option Wl:=Go.L.run (Lj a0) s
def OF(a0:YK):Option Wl:=
 Xd (EJ (a0.1,a0.2.1,a0.2.2)) (λa=>Ay (0<=a/\((1:Nat):Int) * a<=281474976710656/\a<=9223372036854775807) (Ay (AL (((Xk a.toNat (0:UInt8)).length:Int) - 1)) ((Qxu a0) ((Xk a.toNat (0:UInt8)),0,(((Xk a.toNat (0:UInt8)).length:Int) - 1)))))
theorem Qkd{a0:YK}{f g k:Value}(q:As (.int .i64) H f (a0.1))(s:As (.int .i64) H g (a0.2.1))(ah:As (.int .i64) H k (a0.2.2)){r:Wl}(h:OF a0=TI r):
  Pd 106 [.agg #[f,g,k]] w (λv w'=>∃u0,v=u0/\B2 5 .byte H w w' u0 r):=by
 refine Ai 32 [(0,.agg #[f,g,k])] func106 Z λhL=>A5<|B6 (t:=63) Z Z hL λw1 b1 af az _=>Af ?_;refine Ah h λx2 ar h=>Al af (EU _ _ (Ae af) (a0.1,a0.2.1,a0.2.2) (q.mono  Ad) (s.mono  Ad) (ah.mono  Ad) ar) λw3 a7 au a1=>Ag h λav h=>AaB (r:=.byte) (z:=(0:UInt8)) LS (λ_=>Z) hH au av λv4 w4 aw ag a2 ax=>Af ?_;refine AA (Wl×LR) (λ⟨m,e⟩=>[(3,v4)]) (λ⟨m,e⟩ wr=>Cd w [.row v4 5 1 (m).length e,.box b1 [f,g,k] 63] wr λOz=>Ao .byte (gz H w wr Oz) m e/\LX m=TI r) ?_ ?_
 ·refine FA 1 Z<|AJ (O1 0 Z ag Z)<|Ag h λa3 h=>Af ?_;refine A4 ?_;obtain⟨u,h⟩:=Ax h;refine AF (Wl×Int×Int×LR×Nat) (λ⟨d,a,b,c,n⟩=>[(1,(SX b1)),(3,v4),(4,No a),(5,No b)]) (λ⟨d,a,b,c,n⟩ wr=>Cd w [.row v4 5 1 (d).length c,.box b1 [f,g,k] 63] wr λOz=>Ao .byte (gz H w wr Oz) d c/\D6 (Lj a0) n (d,a,b)=TI r) (λ⟨d,a,b,c,n⟩=>n) ((Xk x2.toNat (0:UInt8)),0,(((Xk x2.toNat (0:UInt8)).length:Int) - 1),aw,u) Z ⟨ag,ax,h⟩ ?_;rintro⟨d,a,b,c,nn54⟩ a4 ⟨l,p,h⟩;obtain⟨u,a8,rfl,h,x⟩:=Aw h;refine AR ?_;refine Ar h ?_ ?_<;>intro aj h
  ·refine AR ?_;refine Ag h λy h=>A1 q a.toNat (BP y) (An y) ?_;rintro a9 _ rfl ak;refine sH ak (hH.trans l.arg)<|AJ (Er (G7 _))<|Ag h λo h=>CZ 0 Z LS Qze.e l Z b.toNat (BP o) (An o) λba al=>JR 0 b.toNat ((Go.L.u8 (a0.1.getD a.toNat Qq7))) Z Z hH l Z p al (An o) Z λbb am aa ay an=>Af ?_;refine Ag h λab h=>A1 s a.toNat (BP ab) (An ab) ?_;rintro bc _ rfl ao;refine sH ao (hH.trans aa.arg)<|Ag h λa5 h=>Af ?_;have h:=AX.again h x;refine Ak (_,_,_,_,_) Z ⟨aa,an,h⟩
  have h:=AX.out h x;refine Af ?_;refine Am (_,_) ⟨l,p,h⟩
 rintro⟨m,e⟩ a6 ⟨ac,ae,h⟩;refine Af ?_
 cases h
 refine AD Z ⟨ac.ext,_,Z,(ac.Ev hH (i:=0) Z ae)⟩
def Hy(a:Int)(c:SB)(b:Int):Option (SU⊕(YK×Bool)):=
 Ay (AL (a+1)) (TI (Sum.inl (c,b,(a+1))))
def DI(a0:SB)(c:Int):SB×Int×Int->Option (SU⊕(SU⊕(YK×Bool))):=λ⟨d,b,a⟩=>
 if a<(a0.length:Int)then Ay (0<=a/\a<(a0.length:Int)) (if a0.getD a.toNat Qq7=c then Ay (0<=a/\a<(d.length:Int)) (Ay (AL (b+1)) (Ay (AL (a+1)) (TI (Sum.inl ((d.set a.toNat b),(b+1),(a+1))))))else Ay (AL (a+1)) (TI (Sum.inl (d,b,(a+1)))))else Sh Sum.inr ((Hy c) d b)
def Lk(a0:SB)(a:Int)(s:SU):Option (SU⊕(YK×Bool)):=Go.L.run (DI a0 a) s
def Hz(c:SB)(d:SB)(a:Int)(e:SB)(b:Bool):Option (YK×Bool):=
 TI ((e,c,(d.set a.toNat (0:Int))),b)
def H3(a0:SB)(d:SB)(c:SB)(b:SB)(a:Int):Option (YK×Bool):=
 Ay (0<=a/\a<(b.length:Int)) (Ay (0<=a/\a<(a0.length:Int)) ((Hz c b a) d (decide (a0.getD a.toNat Qq7=(-1)))))
def CE(a0:SB)(e:SB)(c:SB):SB×Int×Int->Option (SU⊕(YK×Bool)):=λ⟨d,a,b⟩=>
 if 0<b then Ay (0<=a/\a<(d.length:Int)) (Ay (0<=a/\a<(a0.length:Int)) (if a0.getD a.toNat Qq7=(-1)then Sh Sum.inr (TI (([],[],[]),false))else Ay (0<=a/\a<(c.length:Int)) (Ay (AL (b - 1)) (TI (Sum.inl ((d.set a.toNat b),c.getD a.toNat Qq7,(b - 1)))))))else Sh Sum.inr ((H3 a0 e c) d a)
def H4(a0:SB)(b:SB)(a:SB)(s:SU):Option (YK×Bool):=Go.L.run (CE a0 b a) s
def H5(a0:SB)(b:SB)(c:SB)(a:SB):Option (YK×Bool):=
 (H4 a0 b a) (c,0,((a0.length:Int) - 1))
def DJ(a0:SB)(d:SB)(e:SB):SB×Int×Int->Option (SU⊕(YK×Bool)):=λ⟨b,c,a⟩=>
 if a<256 then(Lk a0 a) (b,c,0)else Sh Sum.inr ((H5 a0 d e) b)
def Qz9(a0:SB)(a:SB)(b:SB)(s:SU):Option (YK×Bool):=Go.L.run (DJ a0 a b) s
def H6(a0:SB)(a:SB)(b:SB)(c:SB):Option (YK×Bool):=
 (Qz9 a0 a c) (b,1,0)
def Fq(a0:SB):Option (YK×Bool):=
 Ay (AL ((a0.length:Int) - 1)) (Ay (AL (((a0.length:Int) - 1)+1)) (Ay (AL (((a0.length:Int) - 1)+1)) (Ay (0<=(((a0.length:Int) - 1)+1)/\((8:Nat):Int) * (((a0.length:Int) - 1)+1)<=281474976710656/\(((a0.length:Int) - 1)+1)<=9223372036854775807) (Ay (0<=(((a0.length:Int) - 1)+1)/\((8:Nat):Int) * (((a0.length:Int) - 1)+1)<=281474976710656/\(((a0.length:Int) - 1)+1)<=9223372036854775807) ((H6 a0) a0 (Xk (((a0.length:Int) - 1)+1).toNat (0:Int)) (Xk (((a0.length:Int) - 1)+1).toNat (0:Int)))))))
theorem Qx8{a0:SB}{c:Value}(m:As (.int .i64) H c a0){r:YK×Bool}(h:Fq a0=TI r):
  Pd 41 [c] w (λv w'=>∃u0 u1 u2,v=.tuple #[.agg #[u0,u1,u2],.bool r.2]/\As (.int .i64) (un H (nw w w')) u0 (r.1.1)/\B2 3 (.int .i64) H w w' u1 (r.1.2.1)/\B2 3 (.int .i64) H w w' u2 (r.1.2.2)):=by
 refine Ai 77 [(0,c)] func41 Z λhL=>A5<|Aq HY.e Z hL λw1 b1 f5 gv _=>Ag h λhg h=>Af ?_;refine AA (SB×SB×SB×Nat×Value×Value×LR×Value×LR) (λ⟨ab,be,ac,bjb43,d,e,ay,f,p⟩=>[(0,c),(2,(SX b1)),(4,No ((a0.length:Int) - 1)),(5,(SX bjb43))]) (λ⟨ab,be,ac,bjb43,d,e,ay,f,p⟩ wr=>Cd w [.box bjb43 [d,e,f] 63,.row f 3 1 (ac).length p,.row e 3 1 (be).length ay,.box b1 [TO,TO,TO] 63] wr λOz=>As (.int .i64) (gz H w wr Oz) d ab/\Ao (.int .i64) (gz H w wr Oz) ac p/\Ao (.int .i64) (gz H w wr Oz) be ay/\(H6 a0) ab be ac=TI r) ?_ ?_
 ·refine P8 (Zt 0 4 (.q 5 (.q 6 (.h3 4 (.h2 7 (.q 8 (.h 9 (.tail 10))) 9 (.h 7 (.q 8 (.tail 10)))) 7 (.h2 4 (.q 8 (.h 9 (.tail 10))) 9 (.h 4 (.q 8 (.tail 10)))) 9 (.h2 4 (.h 7 (.q 8 (.tail 10))) 7 (.h 4 (.q 8 (.tail 10)))))))) mixed SF (λhh fs=>?_);have b5:=f5.call fs;refine Br 1 Z<|Bh Z (A8 (λ_=>AjP _ m.one _)) Z<|Br 1 Z<|Ag h λft h=>Bh Z (Gq ft) Z<|Br 1 Z<|Ag h λfu h=>Bh Z (Gq fu) Z<|AnL ?_ ?_ ?_
  ·refine Ag h λax h=>ME 0 (r:=(.int .i64)) Z Z Z Z VV (λ_=>Z) Z hH b5 ax λcq hi b6 dm ge a5=>VS ?_ ?_
   ·refine Ag h λan h=>ME 0 (r:=(.int .i64)) Z Z Z Z VV (λ_=>Z) Z hH dm an λf6 hj fv b7 ew b8=>Bh Z (A8 (λ_=>KG _ _ (row_one (b7.aT 1 Z)) _ (row_one (b7.aT 0 Z)) _)) Z<|QH Z HY.e Z Z b7 λhk f7 dn cr=>AT (λhl dp=>?_);have b9:=dn.call dp;have cs:=A3 dn dp;refine Ac 0 Z b9 Z (a:=(AV m.one (AV (row_one (b9.aT 2 Z)) (AV (row_one (b9.aT 1 Z)) JO)))) λhm fw ct=>HX ?_;have a5:=a5.mono (Aa (ew.trans (cr.trans (cs.trans ct))));have b8:=b8.mono (Aa (cr.trans (cs.trans ct)));refine Am (a0,(Xk (((a0.length:Int) - 1)+1).toNat (0:Int)),(Xk (((a0.length:Int) - 1)+1).toNat (0:Int)),f7,c,cq,b6,f6,fv) ⟨fw,(m.mono  Ad),b8,a5,h⟩
   refine Ag h λan h=>QH Z HY.e Z Z dm λhn fp fx ex=>ME 0 (r:=(.int .i64)) Z Z Z Z VV (λ_=>Z) Z hH fx an λdq ho dr bi ey ca=>Bh Z (A8 (λ_=>KG _ _ (row_one (bi.aT 2 Z)) _ (row_one (bi.aT 0 Z)) _)) Z<|AT (λhq ds=>?_);have cb:=bi.call ds;have cu:=A3 bi ds;refine Ac 1 Z cb Z (a:=(AV m.one (AV (row_one (cb.aT 2 Z)) (AV (row_one (cb.aT 0 Z)) JO)))) λf8 dt cv=>HX ?_;have du:AB w [.box fp [c,cq,dq] 63,.row dq 3 1 ((Xk (((a0.length:Int) - 1)+1).toNat (0:Int))).length dr,.row cq 3 1 ((Xk (((a0.length:Int) - 1)+1).toNat (0:Int))).length b6,.box b1 [TO,TO,TO] 63] f8:=dt.BX [1] Z;have cw:=Bb [1] dt du Z;have a5:=a5.mono (Aa (ex.trans (ey.trans (cu.trans (cv.trans cw)))));have ca:=ca.mono (Aa (cu.trans (cv.trans cw)));refine Am (a0,(Xk (((a0.length:Int) - 1)+1).toNat (0:Int)),(Xk (((a0.length:Int) - 1)+1).toNat (0:Int)),fp,c,cq,b6,dq,dr) ⟨du,(m.mono  Ad),ca,a5,h⟩
  ·refine Ag h λax h=>Ag h λan h=>ME 0 (r:=(.int .i64)) Z Z Z Z VV (λ_=>Z) Z hH b5 an λbf hr bj dv gf a6=>VS ?_ ?_
   ·refine ME 0 (r:=(.int .i64)) Z Z Z Z VV (λ_=>Z) Z hH dv ax λdw hs dx cc ez cd=>Bh Z (A8 (λ_=>KG _ _ (row_one (cc.aT 0 Z)) _ (row_one (cc.aT 1 Z)) _)) Z<|QH Z HY.e Z Z cc λht fq dy cx=>AT (λhu dz=>?_);have ce:=dy.call dz;have cy:=A3 dy dz;refine Ac 0 Z ce Z (a:=(AV m.one (AV (row_one (ce.aT 1 Z)) (AV (row_one (ce.aT 2 Z)) JO)))) λf9 d0 cz=>HX ?_;have d1:AB w [.box fq [c,dw,bf] 63,.row bf 3 1 ((Xk (((a0.length:Int) - 1)+1).toNat (0:Int))).length bj,.row dw 3 1 ((Xk (((a0.length:Int) - 1)+1).toNat (0:Int))).length dx,.box b1 [TO,TO,TO] 63] f9:=d0.BX [2,1] Z;have c0:=Bb [2,1] d0 d1 Z;have a6:=a6.mono (Aa (ez.trans (cx.trans (cy.trans (cz.trans c0)))));have cd:=cd.mono (Aa (cx.trans (cy.trans (cz.trans c0))));refine Am (a0,(Xk (((a0.length:Int) - 1)+1).toNat (0:Int)),(Xk (((a0.length:Int) - 1)+1).toNat (0:Int)),fq,c,dw,dx,bf,bj) ⟨d1,(m.mono  Ad),a6,cd,h⟩
   refine QH Z HY.e Z Z dv λhv fr fy e0=>ME 0 (r:=(.int .i64)) Z Z Z Z VV (λ_=>Z) Z hH fy ax λd2 hw d3 bk e1 cf=>Bh Z (A8 (λ_=>KG _ _ (row_one (bk.aT 0 Z)) _ (row_one (bk.aT 2 Z)) _)) Z<|AT (λhx d4=>?_);have cg:=bk.call d4;have c1:=A3 bk d4;refine Ac 1 Z cg Z (a:=(AV m.one (AV (row_one (cg.aT 0 Z)) (AV (row_one (cg.aT 2 Z)) JO)))) λga d5 c2=>HX ?_;have d6:AB w [.box fr [c,d2,bf] 63,.row bf 3 1 ((Xk (((a0.length:Int) - 1)+1).toNat (0:Int))).length bj,.row d2 3 1 ((Xk (((a0.length:Int) - 1)+1).toNat (0:Int))).length d3,.box b1 [TO,TO,TO] 63] ga:=d5.BX [2,2] Z;have c3:=Bb [2,2] d5 d6 Z;have a6:=a6.mono (Aa (e0.trans (e1.trans (c1.trans (c2.trans c3)))));have cf:=cf.mono (Aa (c1.trans (c2.trans c3)));refine Am (a0,(Xk (((a0.length:Int) - 1)+1).toNat (0:Int)),(Xk (((a0.length:Int) - 1)+1).toNat (0:Int)),fr,c,d2,d3,bf,bj) ⟨d6,(m.mono  Ad),a6,cf,h⟩
  refine Ag h λax h=>Ag h λan h=>QH Z HY.e Z Z b5 λhy c4 d7 gg=>VS ?_ ?_
  ·refine ME 0 (r:=(.int .i64)) Z Z Z Z VV (λ_=>Z) Z hH d7 ax λd8 hz d9 fz gh ch=>ME 0 (r:=(.int .i64)) Z Z Z Z VV (λ_=>Z) Z hH fz an λea h0 eb bl e2 ci=>Bh Z (A8 (λ_=>KG _ _ (row_one (bl.aT 1 Z)) _ (row_one (bl.aT 0 Z)) _)) Z<|AT (λh1 ec=>?_);have cj:=bl.call ec;have c5:=A3 bl ec;refine Ac 2 Z cj Z (a:=(AV m.one (AV (row_one (cj.aT 1 Z)) (AV (row_one (cj.aT 0 Z)) JO)))) λgb ed c6=>HX ?_;have ee:AB w [.box c4 [c,d8,ea] 63,.row ea 3 1 ((Xk (((a0.length:Int) - 1)+1).toNat (0:Int))).length eb,.row d8 3 1 ((Xk (((a0.length:Int) - 1)+1).toNat (0:Int))).length d9,.box b1 [TO,TO,TO] 63] gb:=ed.BX [2] Z;have c7:=Bb [2] ed ee Z;have ch:=ch.mono (Aa (e2.trans (c5.trans (c6.trans c7))));have ci:=ci.mono (Aa (c5.trans (c6.trans c7)))
   refine Am (a0,(Xk (((a0.length:Int) - 1)+1).toNat (0:Int)),(Xk (((a0.length:Int) - 1)+1).toNat (0:Int)),c4,c,d8,d9,ea,eb) ⟨ee,(m.mono  Ad),ci,ch,h⟩
  refine ME 0 (r:=(.int .i64)) Z Z Z Z VV (λ_=>Z) Z hH d7 an λef h4 eg f0 gi ck=>ME 0 (r:=(.int .i64)) Z Z Z Z VV (λ_=>Z) Z hH f0 ax λeh h5 ei bm e3 cl=>Bh Z (A8 (λ_=>KG _ _ (row_one (bm.aT 0 Z)) _ (row_one (bm.aT 1 Z)) _)) Z<|AT (λh6 ej=>?_);have cm:=bm.call ej;have c8:=A3 bm ej;refine Ac 2 Z cm Z (a:=(AV m.one (AV (row_one (cm.aT 0 Z)) (AV (row_one (cm.aT 1 Z)) JO)))) λgc ek c9=>HX ?_;have el:AB w [.box c4 [c,eh,ef] 63,.row ef 3 1 ((Xk (((a0.length:Int) - 1)+1).toNat (0:Int))).length eg,.row eh 3 1 ((Xk (((a0.length:Int) - 1)+1).toNat (0:Int))).length ei,.box b1 [TO,TO,TO] 63] gc:=ek.BX [1,2] Z;have da:=Bb [1,2] ek el Z;have ck:=ck.mono (Aa (e3.trans (c8.trans (c9.trans da))));have cl:=cl.mono (Aa (c8.trans (c9.trans da)))
  refine Am (a0,(Xk (((a0.length:Int) - 1)+1).toNat (0:Int)),(Xk (((a0.length:Int) - 1)+1).toNat (0:Int)),c4,c,eh,ei,ef,eg) ⟨el,(m.mono  Ad),ck,cl,h⟩
 rintro⟨ab,be,ac,bjb43,d,e,ay,f,p⟩ gw ⟨em,e4,e5,e6,h⟩;have cn:=em.rG H;refine Bx 1 Z<|AA (SB×LR) (λ⟨t,o⟩=>[(0,c),(2,(SX b1)),(4,No ((a0.length:Int) - 1)),(5,(SX bjb43))]) (λ⟨t,o⟩ wr=>Cd w [.box bjb43 [d,e,f] 63,.row f 3 1 (ac).length p,.row e 3 1 (t).length o,.box b1 [TO,TO,TO] 63] wr λOz=>As (.int .i64) (gz H w wr Oz) d ab/\Ao (.int .i64) (gz H w wr Oz) ac p/\Ao (.int .i64) (gz H w wr Oz) t o/\(H5 a0 ab ac) t=TI r) ?_ ?_
 ·refine Bx 1 Z<|A4 ?_;obtain⟨co,h⟩:=Ax h;refine AF (SB×Int×Int×LR×Nat) (λ⟨ao,aj,k,ag,n⟩=>[(0,c),(2,(SX b1)),(4,No ((a0.length:Int) - 1)),(5,(SX bjb43)),(6,No aj),(24,No k)]) (λ⟨ao,aj,k,ag,n⟩ wr=>Cd w [.box bjb43 [d,e,f] 63,.row f 3 1 (ac).length p,.row e 3 1 (ao).length ag,.box b1 [TO,TO,TO] 63] wr λOz=>As (.int .i64) (gz H w wr Oz) d ab/\Ao (.int .i64) (gz H w wr Oz) ac p/\Ao (.int .i64) (gz H w wr Oz) ao ag/\D6 (DJ a0 ab ac) n (ao,aj,k)=TI r) (λ⟨ao,aj,k,ag,n⟩=>n) (be,1,0,ay,co) Z ⟨em,(e4.mono cn),(e5.mono cn),(e6.mono cn),h⟩ ?_;rintro⟨ao,aj,k,ag,nn237⟩ gj ⟨bn,bg,he237_j47,b2,h⟩;obtain⟨co,en,rfl,h,db⟩:=Aw h;have au:=bn.rG H;refine AR ?_;refine Ar h ?_ ?_<;>intro e7 h
  ·refine Af ?_;refine AA (SB×Int×LR) (λ⟨a7,ap,aq⟩=>[(0,c),(2,(SX b1)),(4,No ((a0.length:Int) - 1)),(5,(SX bjb43)),(6,No ap),(24,No k)]) (λ⟨a7,ap,aq⟩ wr=>Cd w [.box bjb43 [d,e,f] 63,.row f 3 1 (ac).length p,.row e 3 1 (a7).length aq,.box b1 [TO,TO,TO] 63] wr λOz=>As (.int .i64) (gz H w wr Oz) d ab/\Ao (.int .i64) (gz H w wr Oz) ac p/\Ao (.int .i64) (gz H w wr Oz) a7 aq/\(Hy k) a7 ap=TI en) ?_ ?_
   ·refine A4<|Af ?_;refine A4 ?_;obtain⟨bo,h⟩:=Ax h;refine AF (SB×Int×Int×LR×Nat) (λ⟨al,u,l,ah,n⟩=>[(0,c),(2,(SX b1)),(4,No ((a0.length:Int) - 1)),(5,(SX bjb43)),(6,No u),(7,No k),(24,No k),(27,c),(28,No (a0.length:Int)),(29,No l)]) (λ⟨al,u,l,ah,n⟩ wr=>Cd w [.box bjb43 [d,e,f] 63,.row f 3 1 (ac).length p,.row e 3 1 (al).length ah,.box b1 [TO,TO,TO] 63] wr λOz=>As (.int .i64) (gz H w wr Oz) d ab/\Ao (.int .i64) (gz H w wr Oz) ac p/\Ao (.int .i64) (gz H w wr Oz) al ah/\D6 (DI a0 k) n (al,u,l)=TI en) (λ⟨al,u,l,ah,n⟩=>n) (ao,aj,0,ag,bo) Z ⟨bn,(bg.mono au),(he237_j47.mono au),(b2.mono au),h⟩ ?_;rintro⟨al,u,l,ah,nn299⟩ gk ⟨av,a8,he299_j47,bd,h⟩;obtain⟨bo,gx,rfl,h,bp⟩:=Aw h;have y:=av.rG H;refine AR ?_;refine Ar h ?_ ?_<;>intro e8 h
    ·refine AR ?_;refine Ag h λdc h=>A1 m l.toNat (BP dc) (An dc) ?_;rintro gy _ rfl e9;refine sH e9 (hH.trans av.arg)<|Af ?_;refine Ar h ?_ ?_<;>intro fa h
     ·refine Af ?_;refine Ag h λbq h=>CZ 2 Z VV DW.e av Z l.toNat (BP bq) (An bq) λg0 fb=>JR 2 l.toNat u Z Z hH av Z (bd.mono y) fb (An bq) Z λg1 fc fd eo fe=>Ag h λgl h=>Ag h λgm h=>Af ?_;have h:=AX.again h bp;have y:=y.trans (Aa eo);refine Ak (_,_,_,_,_) Z ⟨fd,(a8.mono y),(he299_j47.mono y),fe,h⟩
     refine Ag h λgn h=>Af ?_;have h:=AX.again h bp;refine Ak (_,_,_,_,_) Z ⟨av,(a8.mono y),(he299_j47.mono y),(bd.mono y),h⟩
    have h:=AX.out h bp;refine Af ?_;refine Am (_,_,_) ⟨av,(a8.mono y),(he299_j47.mono y),(bd.mono y),h⟩
   rintro⟨a7,ap,aq⟩ go ⟨dd,dk,he279_j47,ep,h⟩;have br:=dd.rG H;refine Ag h λgp h=>Af ?_;have h:=AX.again h db;refine Ak (_,_,_,_,_) Z ⟨dd,(dk.mono br),(he279_j47.mono br),(ep.mono br),h⟩
  have h:=AX.out h db;refine Af ?_;refine Am (_,_) ⟨bn,(bg.mono au),(he237_j47.mono au),(b2.mono au),h⟩
 rintro⟨t,o⟩ gq ⟨de,dl,he189_j47,eq,h⟩;have bs:=de.rG H;refine Bx 1 Z<|AA (SB×Int×LR) (λ⟨am,a,az⟩=>[(0,c),(2,(SX b1)),(5,(SX bjb43)),(10,No a)]) (λ⟨am,a,az⟩ wr=>Cd w [.box bjb43 [d,e,f] 63,.row f 3 1 (am).length az,.row e 3 1 (t).length o,.box b1 [TO,TO,TO] 63] wr λOz=>As (.int .i64) (gz H w wr Oz) d ab/\Ao (.int .i64) (gz H w wr Oz) am az/\Ao (.int .i64) (gz H w wr Oz) t o/\(H3 a0 ab t) am a=TI r) ?_ ?_
 ·refine Bx 2 Z<|A4 ?_;obtain⟨cp,h⟩:=Ax h;refine AF (SB×Int×Int×LR×Nat) (λ⟨ar,g,x,ak,n⟩=>[(0,c),(2,(SX b1)),(5,(SX bjb43)),(10,No g),(11,No x)]) (λ⟨ar,g,x,ak,n⟩ wr=>Cd w [.box bjb43 [d,e,f] 63,.row f 3 1 (ar).length ak,.row e 3 1 (t).length o,.box b1 [TO,TO,TO] 63] wr λOz=>As (.int .i64) (gz H w wr Oz) d ab/\Ao (.int .i64) (gz H w wr Oz) ar ak/\Ao (.int .i64) (gz H w wr Oz) t o/\D6 (CE a0 ab t) n (ar,g,x)=TI r) (λ⟨ar,g,x,ak,n⟩=>n) (ac,0,((a0.length:Int) - 1),p,cp) Z ⟨de,(dl.mono bs),(he189_j47.mono bs),(eq.mono bs),h⟩ ?_;rintro⟨ar,g,x,ak,nn382⟩ gr ⟨a9,bh,b3,he382_j45,h⟩;obtain⟨cp,g2,rfl,h,bt⟩:=Aw h;have ad:=a9.rG H;refine AR ?_;refine Ar h ?_ ?_<;>intro ff h
  ·refine AR ?_;refine Ag h λbu h=>CZ 1 Z VV DW.e a9 Z g.toNat (BP bu) (An bu) λg3 fg=>JR 1 g.toNat x Z Z hH a9 Z (b3.mono ad) fg (An bu) Z λg4 fh ba er fi=>AR ?_;refine Ag h λdf h=>A1 m g.toNat (BP df) (An df) ?_;rintro g5 _ rfl fj;refine sH fj (hH.trans ba.arg)<|BJ 1 Z<|Ar h ?_ ?_<;>intro fk h
   ·refine A5<|AJ (A8 (λ_=>AeI _))<|Ac 3 Z ba Z ?_;intro g6 dg gd;have h:=AX.out h bt;refine Af ?_
    cases h
    refine AP (.cell Z VX Z HY.e (box_pT 3 dg Z)) (.tmp Z) ⟨dg.ext,_,_,_,Z,(As.nil _ _),B2.nil,B2.nil⟩
   refine Af ?_;refine Ag h λdh h=>?_;have ad:=ad.trans (Aa er);refine A1 (ba.Jv hH (i:=2) Z (he382_j45.mono ad)) g.toNat (BP dh) (An dh) ?_;rintro g7 _ rfl fl;refine sH fl (Le.refl _)<|Ag h λgs h=>Af ?_;have h:=AX.again h bt;refine Ak (_,_,_,_,_) Z ⟨ba,(bh.mono ad),fi,(he382_j45.mono ad),h⟩
  have h:=AX.out h bt;refine Af ?_;refine Am (_,_,_) ⟨a9,(bh.mono ad),(b3.mono ad),(he382_j45.mono ad),h⟩
 rintro⟨am,a,az⟩ gt ⟨bv,af,es,he361_j45,h⟩;have s:=bv.rG H;refine Af ?_;refine Ag h λbw h=>CZ 1 Z VV DW.e bv Z a.toNat (BP bw) (An bw) λg8 fm=>JR 1 a.toNat 0 Z Z hH bv Z (es.mono s) fm (An bw) Z λg9 bx di b4 aw=>Ap<|AA (SB×Bool×Value) (λ⟨bz,a1,bb⟩=>[(2,(SX b1)),(3,.bool a1)]) (λ⟨bz,a1,bb⟩ wr=>Cd w [.box bjb43 [d,e,f] 63,.row f 3 1 ((am.set a.toNat (0:Int))).length bx,.row e 3 1 (t).length o,.box b1 [bb,e,f] 63] wr λOz=>As (.int .i64) (gz H w wr Oz) d ab/\Ao (.int .i64) (gz H w wr Oz) ((am.set a.toNat (0:Int))) bx/\Ao (.int .i64) (gz H w wr Oz) t o/\As (.int .i64) (gz H w wr Oz) bb bz/\(Hz t am a) bz a1=TI r) ?_ ?_
 ·refine Ik (KZ MF) (λz0 z=>Le (gz H w z0 [.box bjb43 [d,e,f] 63,.row f 3 1 ((am.set a.toNat (0:Int))).length bx,.row e 3 1 (t).length o,.box b1 [TO,TO,TO] 63]) (hp z)/\z.heap[bjb43]? = TI (.cells [d,e,f].toArray 63 (0,0))) mixed Z (λae hb dj=>?_);have aa:=di.call dj;have a2:=A3 di dj;have b:=aa.rG H;refine MG ⟨b.trans (Ae aa),aa.aT 0 Z⟩ λkI426=>Au 0 ae kI426 Z (λ_ hI=>MU hI.2) Z<|Au 1 ae kI426 Z (λ_ _=>Az Z) Z<|Au 2 ae kI426 Z (λ_ _=>Az Z) Z<|Pe 3 6 Z SF Z ?_ ?_
  ·refine Ag h λa3 h=>A1 m a.toNat (BP a3) (An a3) ?_;rintro hc _ rfl fn;refine AS ⟨b.trans (Ae aa),aa.aT 0 Z⟩ λkI429=>Au 4 ae kI429 Z (λ_ hI=>B5 (fn.mono  Ad) hI.1) Z<|Au 5 ae kI429 Z (λ_ _=>Az Z) Z<|Jr 6 Z ?_;have s:=s.trans (Aa (b4.trans a2));refine Ac 3 Z aa Z (a:=(AV ((af.mono s).mono b).one (AV (row_one (aa.aT 2 Z)) (AV (row_one (aa.aT 1 Z)) JO)))) ?_;intro hd b0 et;have b:=b.trans (Aa et);refine AS ⟨b.trans (Ae b0),b0.aT 0 Z⟩ λkI431=>Au 7 ae kI431 Z (λ_ _=>Az Z) Z<|FF ?_;have aw:=aw.mono (Aa a2);refine Am (_,_,_) ⟨b0,((af.mono s).mono b),(aw.mono b),((he361_j45.mono s).mono b),((af.mono s).mono b),h⟩
  refine Ag h λa3 h=>?_;have s:=s.trans (Aa (b4.trans a2));refine Ac 3 Z aa Z (a:=(AV ((af.mono s).mono b).one (AV (row_one (aa.aT 2 Z)) (AV (row_one (aa.aT 1 Z)) JO)))) ?_;intro he a4 eu;have b:=b.trans (Aa eu);refine AS ⟨b.trans (Ae a4),a4.aT 0 Z⟩ λkI433=>Jr 3 Z<|A1 m a.toNat (BP a3) (An a3) ?_;rintro hf _ rfl fo;refine AS ⟨b.trans (Ae a4),a4.aT 0 Z⟩ λkI435=>Au 4 ae kI435 Z (λ_ hI=>B5 (fo.mono  Ad) hI.1) Z<|Au 5 ae kI435 Z (λ_ _=>Az Z) Z<|Au 7 ae kI435 Z (λ_ _=>Az Z) Z<|FF ?_;have aw:=aw.mono (Aa a2);refine Am (_,_,_) ⟨a4,((af.mono s).mono b),(aw.mono b),((he361_j45.mono s).mono b),((af.mono s).mono b),h⟩
 rintro⟨bz,a1,bb⟩ gu ⟨bc,f1,he421_j47,he421_j45,ev,h⟩;refine U9 ?_
 cases h
 refine AP (.cell Z VX Z HY.e (box_pT 3 bc Z)) (.tmp Z) ⟨bc.ext,_,_,_,Z,(ev.mono  Dl),(bc.Ev hH (i:=2) Z he421_j45),(bc.Ev hH (i:=1) Z he421_j47)⟩
def Ac6(a0:YK)(a1 a2:Int):Option (Wl×Zv):=
 if a1<0 then none else Xd (EJ (a0.1,a0.2.1,a0.2.2)) (λd=>if d<a1 then none else(if a2<a1 then none else Xd (EJ (a0.1,a0.2.1,a0.2.2)) (λb=>if b<a2 then none else Xd (OF (a0.1,a0.2.1,a0.2.2)) (λa=>Ay (0<=a1/\a1<=a2/\a2<=(a.length:Int)) (Xd (Hu ((a.drop a1.toNat).take (a2.toNat - a1.toNat))) (λc=>TI (c,(0,0))))))))
theorem Qzd{a0:YK}{a1 a2:Int}{a b c:Value}(d:As (.int .i64) H a (a0.1))(e:As (.int .i64) H b (a0.2.1))(f:As (.int .i64) H c (a0.2.2)){r:Wl×Zv}(h:Ac6 a0 a1 a2=TI r):
  Pd 55 [.agg #[a,b,c],No a1,No a2] w (λv w'=>∃u0,v=.tuple #[u0,.agg #[No r.2.1,No r.2.2]]/\B2 5 .byte H w w' u0 (r.1)):=by
 refine Ai 34 [(0,.agg #[a,b,c]),(1,No a1),(2,No a2)] func55 Z λhL=>A5<|B6 (t:=63) Z Z hL λw1 b1 aj ar _=>AK 1 Z<|Aq Av.e Z aj λw2 b2 x au _=>AR ?_;refine Bl 10 h ?_ ?_<;>intro ak h
 ·refine Af ?_;refine Cm ?_
  cases h
 refine Af ?_;refine Ah h λx6 al h=>Al x (EU _ _ (Ae x) (a0.1,a0.2.1,a0.2.2) (d.mono  Ad) (e.mono  Ad) (f.mono  Ad) al) λw7 ay y av=>Af ?_;refine Ar h ?_ ?_<;>intro am h
 ·cases h
 refine AR ?_;refine Bl 20 h ?_ ?_<;>intro z h
 ·refine Af ?_;refine Cm ?_
  cases h
 refine Af ?_;refine Ah h λaz aa h=>Al y (EU _ _ (Ae y) (a0.1,a0.2.1,a0.2.2) (d.mono  Ad) (e.mono  Ad) (f.mono  Ad) aa) λa3 aw g an=>Af ?_;refine Ar h ?_ ?_<;>intro ab h
 ·cases h
 refine Af ?_;refine Ah h λa4 ac h=>A9 g (Qkd (a0:=(a0.1,a0.2.1,a0.2.2)) _ _ (Ae g) (d.mono  Ad) (e.mono  Ad) (f.mono  Ad) ac) ?_;rintro ao a5 ⟨_,rfl,m⟩ ad j ap;have o:=m.BB hH g ad;refine AK 2 Z<|Ag h λae h=>UF o ae λa6 af=>Ah h λa7 ag h=>A9 j (JC _ _ (Ae j) af ag) ?_;rintro aq a8 ⟨_,rfl,p⟩ ah q s;obtain⟨ax,q,s,k⟩:=p.take hH j ah;refine AJ (A8 (λ_=>Bo _))<|AK 1 Z<|Ac 1 Z q Z λa9 l u=>Af ?_
 cases h
 refine AP (.tmp Z) (.cell Z QW Z Av.e (box_pT 1 l Z)) ?_;have k:=k.mono (Aa u);exact⟨l.ext,_,Z,(l.Ev hH (i:=0) Z k)⟩
def H7(a1:Int):Option (SB):=
 Ay (AL (0 - 0)) (Ay (AL (a1 - (0 - 0))) (if 0<(a1 - (0 - 0))then Ay (0<(a1 - (0 - 0))/\(a1 - (0 - 0)) * 8<=281474976710656) (TI (([]:SB)))else TI ([])))
def JF(_a0:SB)(a1:Int):Option (SB):=
 if a1<0 then none else(H7 a1)
theorem AgB{a0:SB}{a1:Int}(_:As (.int .i64) H TO a0){r:SB}(h:JF a0 a1=TI r):
  Pd 77 [TO,No a1] w (λv w'=>∃t,v=t/\B2 3 (.int .i64) H w w' t r):=by
 refine Ai 27 [(0,TO),(1,No a1)] func77 Z λhL=>Bx 1 Z<|AA Unit (λ(_:Unit)=>[(0,TO),(1,No a1)]) (λ(_:Unit) wr=>AB w [] wr/\(H7 a1)=TI r) ?_ ?_
 ·refine Bx 2 Z<|Ar h ?_ ?_<;>intro u h
  ·refine FC ?_
   cases h
  refine Ca<|Am () ⟨hL,h⟩
 rintro _ ac ⟨d,h⟩;refine AR ?_;refine AJ (Wx Z)<|AK 1 Z<|AJ (XV Z)<|Ag h λz h=>Ag h λaa h=>Af ?_;refine Ar h ?_ ?_<;>intro g h
 ·refine Af ?_;refine AJ (Wx Z)<|AJ Yg<|AK 1 Z<|Ag h λab h=>?_;obtain⟨x,j⟩:=Int.eq_ofNat_of_zero_le (show 0<=(a1 - (0 - 0)) by omega);refine Ae2 (k:=.i64) (m:=x) (by rw[<- j];rfl) VV U U U λf a c ad l o p q s=>AK 1 Z<|AJ (XV Z)<|AJ (AgX Z) ?_;obtain⟨b,y⟩:=NR (v:=.slice (some ⟨f,0,none⟩) 0 a) (e:=3) (sz:=1) (m:=0) (xs:=[]) d l ⟨Z,.inr ⟨f,a,c,Z,o,p,Tg _,q,by rw[s,Z5],Z⟩⟩;refine Af ?_
  cases h
  refine AD Z ⟨b.ext,_,Z,(b.Ev hH (i:=0) Z .nil)⟩
 refine Af ?_
 cases h
 refine AD Z ⟨d.ext,_,Z,B2.nil⟩
def Afm(a:SB):Option (SB):=
 TI a
def B0(a0:List SB):SB×Int->Option (KP⊕(SB)):=λ⟨b,a⟩=>
 if a<(a0.length:Int)then Ay (0<=a/\a<(a0.length:Int)) (Ay (Go.E.Dx 8 (b.length+(a0.getD a.toNat Qq7).length)) (Ay (AL (a+1)) (TI (Sum.inl ((b++a0.getD a.toNat Qq7),(a+1))))))else Sh Sum.inr (Afm b)
def G8(a0:List SB)(s:KP):Option (SB):=Go.L.run (B0 a0) s
def G9(a0:List SB)(a:Int):Option (SB):=
 Xd (JF ([]) a) (λb=>(G8 a0) (b,0))
def B1(a0:List SB):Int×Int->Option (Zv⊕(SB)):=λ⟨b,a⟩=>
 if a<(a0.length:Int)then Ay (0<=a/\a<(a0.length:Int)) (Ay (AL (b+((a0.getD a.toNat Qq7).length:Int))) (if(b+((a0.getD a.toNat Qq7).length:Int))<0 then none else Ay (AL (a+1)) (TI (Sum.inl ((b+((a0.getD a.toNat Qq7).length:Int)),(a+1))))))else Sh Sum.inr ((G9 a0) b)
def JY(a0:List SB)(s:Int×Int):Option (SB):=Go.L.run (B1 a0) s
def FZ(a0:List SB):Option (SB):=
 (JY a0) (0,0)
theorem AbM{a0:List SB}{e:Value}(x:As (.vec (.int .i64)) H e a0){r:SB}(h:FZ a0=TI r):
  Pd 40 [e] w (λv w'=>∃u0,v=u0/\B2 3 (.int .i64) H w w' u0 r):=by
 refine Ai 36 [(0,e)] func40 Z λhL=>Af ?_;refine AA Int (λj=>[(0,e),(3,No j)]) (λj wr=>AB w [] wr/\(G9 a0) j=TI r) ?_ ?_
 ·refine Af ?_;refine A4 ?_;obtain⟨y,h⟩:=Ax h;refine AF (Int×Int×Nat) (λ⟨c,b,n⟩=>[(0,e),(3,No c),(9,e),(10,No (a0.length:Int)),(11,No b)]) (λ⟨c,b,n⟩ wr=>AB w [] wr/\D6 (B1 a0) n (c,b)=TI r) (λ⟨c,b,n⟩=>n) (0,0,y) Z ⟨hL,h⟩ ?_;rintro⟨c,b,nn42⟩ a5 ⟨q,h⟩;obtain⟨y,bb,rfl,h,z⟩:=Aw h;refine AR ?_;refine Ar h ?_ ?_<;>intro ak h
  ·refine AR ?_;refine Ag h λaa h=>A1 x b.toNat (BP aa) (An aa) ?_;rintro bc _ ⟨e46v0,rfl,e46h0⟩ al;refine sH al (hH.trans q.arg)<|Ag h λa6 h=>Af ?_;refine Ar h ?_ ?_<;>intro am h
   ·refine FC ?_
    cases h
   refine Ag h λa7 h=>Af ?_;have h:=AX.again h z;refine Ak (_,_,_) Z ⟨q,h⟩
  have h:=AX.out h z;refine Af ?_;refine Am _ ⟨q,h⟩
 rintro j a8 ⟨s,h⟩;refine FA 1 Z<|Ah h λa1 an h=>A9 s (AgB _ _ (Ae s) (As.nil _ _) an) ?_;rintro ah bd ⟨_,rfl,ab⟩ ao ac ai;obtain⟨ap,ac,ai,aq⟩:=ab.take hH s ao;refine BJ 1 Z<|AA (SB×Value×LR) (λ⟨p,o,k⟩=>[(6,o)]) (λ⟨p,o,k⟩ wr=>Cd w [.row o 3 1 (p).length k] wr λOz=>Ao (.int .i64) (gz H w wr Oz) p k/\Afm p=TI r) ?_ ?_
 ·refine Af ?_;refine A4 ?_;obtain⟨ad,h⟩:=Ax h;refine AF (SB×Int×Value×LR×Nat) (λ⟨f,a,g,d,n⟩=>[(6,g),(25,e),(26,No (a0.length:Int)),(27,No a)]) (λ⟨f,a,g,d,n⟩ wr=>Cd w [.row g 3 1 (f).length d] wr λOz=>Ao (.int .i64) (gz H w wr Oz) f d/\D6 (B0 a0) n (f,a)=TI r) (λ⟨f,a,g,d,n⟩=>n) (a1,0,ah,ap,ad) Z ⟨ac,aq,h⟩ ?_;rintro⟨f,a,g,d,nn92⟩ a9 ⟨t,u,h⟩;obtain⟨ad,be,rfl,h,ae⟩:=Aw h;refine AR ?_;refine Ar h ?_ ?_<;>intro ar h
  ·refine AR ?_;refine Ag h λaf h=>A1 x a.toNat (BP af) (An af) ?_;rintro bf _ ⟨e96v0,rfl,e96h0⟩ au;refine sH au (hH.trans t.arg)<|Af ?_;refine Ag h λav h=>Bf (r:=(.int .i64)) 0 f (a0.getD a.toNat Qq7) Z VV t Z u (e96h0.mono  Ad) av λa2 bg aw ax a3 ay=>Ag h λa4 h=>Af ?_;have h:=AX.again h ae;refine Ak (_,_,_,_,_) Z ⟨ax,ay,h⟩
  have h:=AX.out h ae;refine Af ?_;refine Am (_,_,_) ⟨t,u,h⟩
 rintro⟨p,o,k⟩ ba ⟨ag,aj,h⟩;refine Af ?_
 cases h
 refine AD Z ⟨ag.ext,_,Z,(ag.Ev hH (i:=0) Z aj)⟩
def Qjk(a b:Int):Option (YK×Zv):=
 TI (([],[],[]),(a,b))
def Mu(b:SB):Option (YK×Zv):=
 Xd (Fq b) (λa=>TI ((a.1.1,a.1.2.1,a.1.2.2),(0,0)))
def Gv(a0:Wl)(b:SB):SB×Int->Option (KP⊕(YK×Zv)):=λ⟨c,a⟩=>
 if a<(b.length:Int)then Ay (0<=a/\a<(b.length:Int)) (if b.getD a.toNat Qq7=0 then Ay (Go.E.Dx 8 (c.length+([(-1)]).length)) (Ay (AL (a+1)) (TI (Sum.inl ((c++[(-1)]),(a+1)))))else Ay (AL (b.getD a.toNat Qq7 - 1)) (Ay (0<=(b.getD a.toNat Qq7 - 1)/\(b.getD a.toNat Qq7 - 1)<(a0.length:Int)) (Ay (Go.E.Dx 8 (c.length+([((a0.getD ((b.getD a.toNat Qq7 - 1).toNat) Qq7).toNat:Int)]).length)) (Ay (AL (a+1)) (TI (Sum.inl ((c++[((a0.getD ((b.getD a.toNat Qq7 - 1).toNat) Qq7).toNat:Int)]),(a+1))))))))else Sh Sum.inr (Mu c)
def AbR(a0:Wl)(a:SB)(s:KP):Option (YK×Zv):=Go.L.run (Gv a0 a) s
def MJ(a0:Wl):Option (YK×Zv):=
 Xd (NW a0) (λa=>if a.2.1=0/\a.2.2=0 then Ay (AL ((a0.length:Int)+1)) (Ay (0<=((a0.length:Int)+1)/\((8:Nat):Int) * ((a0.length:Int)+1)<=281474976710656/\((a0.length:Int)+1)<=9223372036854775807) (Xd (FZ ([[(a0.length:Int)],a.1])) (λb=>(AbR a0 b) (([]:SB),0))))else Qjk a.2.1 a.2.2)
theorem Qx6{a0:Wl}{ac:Value}(a5:As .byte H ac a0){r:YK×Zv}(h:MJ a0=TI r):
  Pd 15 [ac] w (λv w'=>∃u0 u1 u2,v=.tuple #[.agg #[u0,u1,u2],.agg #[No r.2.1,No r.2.2]]/\As (.int .i64) (un H (nw w w')) u0 (r.1.1)/\As (.int .i64) (un H (nw w w')) u1 (r.1.2.1)/\As (.int .i64) (un H (nw w w')) u2 (r.1.2.2)):=by
 refine Ai 58 [(0,ac)] func15 Z λhL=>A5<|Aq HY.e Z hL λw1 b1 cu dd _=>Aq Av.e Z cu λw2 b2 a6 de _=>Af ?_;refine Ah h λs cv h=>A9 a6 (Ad2 _ _ (Ae a6) (a5.mono  Ad) cv) ?_;rintro _ w4 ⟨df,rfl,bh⟩ cw cx dg;have t:=bh.BB hH a6 cw;refine AK 3 Z<|Aq Av.e Z cx λw5 b5 cy cd _=>AK 1 Z<|Ac 0 Z cy Z λw6 cc ce=>AR ?_;refine AJ (A8 (λ_=>Bo _))<|AJ (I4 Ge (KO _ _ _ _))<|Ap<|Bt h ?_ ?_<;>intro cz h
 ·refine AA Zv (λ⟨au,av⟩=>[(2,(SX b1)),(3,(SX b2))]) (λ⟨au,av⟩ wr=>AB w [.box b5 [No s.2.1,No s.2.2] 39,.box b2 [No au,No av] 39,.box b1 [TO,TO,TO] 63] wr/\Qjk au av=TI r) ?_ ?_
  ·refine Ik (KZ (VF MF)) (λz0 z=>Le (gz H w z0 [.box b5 [No s.2.1,No s.2.2] 39,.box b2 [No 0,No 0] 39,.box b1 [TO,TO,TO] 63]) (hp z)/\z.heap[b5]? = TI (.cells [No s.2.1,No s.2.2].toArray 39 (0,0))/\z.heap[b2]? = TI (.cells [No 0,No 0].toArray 39 (0,0))) mixed Z (λa8 d4 cf=>?_);have x:=cc.call cf;have ad:=x.rG H;refine MG ⟨ad.trans (Ae x),x.aT 0 Z,x.aT 1 Z⟩ λkI27=>Au 0 a8 kI27 Z (λ_ _=>A8 (λ_=>AeI _)) Z<|Au 1 a8 kI27 Z (λ_ hI=>MU hI.2.1) Z<|Jr 2 Z<|Ac 2 Z x Z ?_;intro d5 ae bi;have ad:=ad.trans (Aa bi);refine AS ⟨ad.trans (Ae ae),ae.aT 0 Z,ae.aT 1 Z⟩ λkI29=>Jr 3 Z<|Ac 1 Z ae Z λd6 cg c6=>Kq<|FF<|Am (_,_) ⟨cg,h⟩
  rintro⟨au,av⟩ di ⟨ap,h⟩;refine Af ?_
  cases h
  refine AP (.cell Z VX Z HY.e (box_pT 2 ap Z)) (.cell Z QW Z Av.e (box_pT 1 ap Z)) ⟨ap.ext,_,_,_,Z,(As.nil _ _),(As.nil _ _),(As.nil _ _)⟩
 refine Ag h λdj h=>Af ?_;refine Ag h λch h=>Aj9 (H:=H) (r:=(.int .i64)) VV DW.e cc ch λc0 d7 ci cj bj aq=>BJ 1 Z<|AA (SB×Value×LR) (λ⟨al,af,u⟩=>[(2,(SX b1)),(3,(SX b2)),(6,af)]) (λ⟨al,af,u⟩ wr=>Cd w [.row af 3 1 (al).length u,.box b5 [No s.2.1,No s.2.2] 39,.box b2 [No 0,No 0] 39,.box b1 [TO,TO,TO] 63] wr λOz=>Ao (.int .i64) (gz H w wr Oz) al u/\Mu al=TI r) ?_ ?_
 ·refine Af ?_;refine Bi [(a0.length:Int)] (r:=(.int .i64)) (λ_=>Fy _ _) cj (.c1 Z .nil) λd8 d9 dk ck aw a9=>AK 1 Z ?_;have t:=t.mono (Aa (cd.trans (ce.trans (bj.trans aw))));refine Bi ([[(a0.length:Int)],s.1]) (r:=(.vec (.int .i64))) (λ_=>Ah2 _ a9.one _ t.one _) (hlen:=(Bk 2)) ck (.c1 ⟨_,Z,a9⟩ (.c1 ⟨_,Z,t⟩ .nil)) λea eb dl ar bk cl=>Ah h λy cm h=>A9 ar (AbM _ _ (Ae ar) cl cm) ?_;rintro ax ec ⟨_,rfl,ba⟩ cn co bl;have bb:=ba.BB hH ar cn;refine Af ?_;refine A4 ?_;obtain⟨ag,h⟩:=Ax h;have aq:=aq.mono (Aa (aw.trans (bk.trans bl)))
  refine AF (SB×Int×Value×LR×Nat) (λ⟨c,a,o,f,n⟩=>[(0,ac),(2,(SX b1)),(3,(SX b2)),(6,o),(30,ax),(31,No (y.length:Int)),(32,No a)]) (λ⟨c,a,o,f,n⟩ wr=>Cd w [.row o 3 1 (c).length f,.box b5 [No s.2.1,No s.2.2] 39,.box b2 [No 0,No 0] 39,.box b1 [TO,TO,TO] 63] wr λOz=>As (.int .i64) (gz H w wr Oz) ax y/\Ao (.int .i64) (gz H w wr Oz) c f/\D6 (Gv a0 y) n (c,a)=TI r) (λ⟨c,a,o,f,n⟩=>n) (([]:SB),0,c0,ci,ag) Z ⟨co,bb,aq,h⟩ ?_;rintro⟨c,a,o,f,nn113⟩ c7 ⟨p,b,d,h⟩;obtain⟨ag,dm,rfl,h,ah⟩:=Aw h;refine AR ?_;refine Ar h ?_ ?_<;>intro bm h
  ·refine AR ?_;refine Ag h λay h=>A1 b a.toNat (BP ay) (An ay) ?_;rintro dn _ rfl bn;refine sH bn (Ae p)<|Af ?_;refine Ar h ?_ ?_<;>intro bo h
   ·refine Af ?_;refine Bi [(-1)] (r:=(.int .i64)) (λ_=>Fy _ _) p (.c1 Z .nil) λdp dq c8 bp am bq=>Ag h λbr h=>?_;have d:=d.mono (Aa am);refine Bf (r:=(.int .i64)) 0 c [(-1)] Z VV bp Z d bq br λcp dr bs bt bc bu=>Ag h λc9 h=>Af ?_;have h:=AX.again h ah;have b:=b.mono (Aa (am.trans bc));refine Ak (_,_,_,_,_) Z ⟨bt,b,bu,h⟩
   refine Ag h λda h=>Af ?_;refine Ag h λaz h=>A1 a5 ((y.getD a.toNat Qq7 - 1).toNat) (BP az) (An az) ?_;rintro ds _ rfl bv;refine sH bv (hH.trans p.arg)<|AJ (Er (GQ _))<|Bi [((a0.getD ((y.getD a.toNat Qq7 - 1).toNat) Qq7).toNat:Int)] (r:=(.int .i64)) (λ_=>Fy _ _) p (.c1 Z .nil) λdt du db bw an bx=>Ag h λbz h=>?_;have d:=d.mono (Aa an);refine Bf (r:=(.int .i64)) 0 c [((a0.getD ((y.getD a.toNat Qq7 - 1).toNat) Qq7).toNat:Int)] Z VV bw Z d bx bz λcq dv b0 b3 bd b4=>Ag h λdc h=>Af ?_;have h:=AX.again h ah;have b:=b.mono (Aa (an.trans bd));refine Ak (_,_,_,_,_) Z ⟨b3,b,b4,h⟩
  have h:=AX.out h ah;refine Af ?_;refine Am (_,_,_) ⟨p,d,h⟩
 rintro⟨al,af,u⟩ dw ⟨be,b6,h⟩;refine FA 1 Z ?_;have b7:=be.BB hH (i:=0) Z b6;have q:=be.dT 0 Z;refine Ah h λdx b8 h=>A9 q (Qx8 _ _ (Ae q) b7 b8) ?_;rintro _ dy ⟨c2,c3,c4,rfl,a2,a3,a4⟩ ai b9 c5;have g:=a2.mono (Da q ai);have j:=a3.BB hH q ai;have k:=a4.BB hH q ai;refine AK 3 Z<|Aq HY.e Z b9 λdz d0 ca aa _=>Ac 0 Z ca Z (a:=(AV g.one (AV j.one (AV k.one JO)))) ?_;intro d1 a1 ab;have e:=a1.rG H;refine Af ?_;refine AJ (A8 (λ_=>Bo _)) ?_;have g:=g.mono (Aa (aa.trans ab));have j:=j.mono (Aa (aa.trans ab));have k:=k.mono (Aa (aa.trans ab));refine Ac 3 Z a1 Z (a:=(AV (g.mono e).one (AV (j.mono e).one (AV (k.mono e).one JO)))) λd2 cb bf=>Ac 2 Z cb Z λd3 aj bg=>Af ?_
 cases h
 refine AP (.cell Z VX Z HY.e (box_pT 3 aj Z)) (.cell Z QW Z Av.e (box_pT 2 aj Z)) ?_;have e:=e.trans (Aa (bf.trans bg));exact⟨aj.ext,_,_,_,Z,((g.mono e).mono  Dl),((j.mono e).mono  Dl),((k.mono e).mono  Dl)⟩
def Pp(a0:Wl)(a1:Int)(a2:Wl):Option Bool:=
 Ay (AL (a1+(a2.length:Int))) (if(a1+(a2.length:Int))<=(a0.length:Int)then Ay (AL (a1+(a2.length:Int))) (Ay (0<=a1/\a1<=(a1+(a2.length:Int))/\(a1+(a2.length:Int))<=(a0.length:Int)) (Xd (Lc ((a0.drop a1.toNat).take ((a1+(a2.length:Int)).toNat - a1.toNat)) a2) (λa=>TI a)))else TI false)
theorem QxE{a0:Wl}{a1:Int}{a2:Wl}{a b:Value}(c:As .byte H a a0)(d:As .byte H b a2){r:Bool}(h:Pp a0 a1 a2=TI r):
  Pd 73 [a,No a1,b] w (λv w'=>v=.bool r):=by
 refine Ai 25 [(0,a),(1,No a1),(2,b)] func73 Z λhL=>Ag h λk h=>Af ?_;refine Bl 14 h ?_ ?_<;>intro e h
 ·refine Ag h λl h=>Af ?_;refine Ag h λf h=>UF c f λp g=>Af ?_;refine Ah h λq i h=>Al hL (Ld _ _ (Ae hL) (g.mono  Ad) (d.mono  Ad) i) λs m o j=>Bu
 exact Bu
def Abx(a:SB):Option (SB):=
 TI a
def Ib(a0:Wl)(a1:Wl):SB×Int->Option (KP⊕(SB)):=λ⟨b,a⟩=>
 if a<(a0.length:Int)then Xd (Pp a0 a a1) (λc=>if c then Ay (Go.E.Dx 8 (b.length+([a]).length)) (Ay (AL (a+1)) (TI (Sum.inl ((b++[a]),(a+1)))))else Ay (AL (a+1)) (TI (Sum.inl (b,(a+1)))))else Sh Sum.inr (Abx b)
def QxK(a0:Wl)(a1:Wl)(s:KP):Option (SB):=Go.L.run (Ib a0 a1) s
def S6(a0:Wl)(a1:Wl):Option (SB):=
 (QxK a0 a1) (([]:SB),0)
theorem Qkq{a0 a1:Wl}{g j:Value}(aa:As .byte H g a0)(ab:As .byte H j a1){r:SB}(h:S6 a0 a1=TI r):
  Pd 35 [g,j] w (λv w'=>∃u0,v=u0/\B2 3 (.int .i64) H w w' u0 r):=by
 refine Ai 22 [(0,g),(1,j)] func35 Z λhL=>?_;obtain⟨am,aq,an⟩:=B3 (.int .i64) H 3 hL;refine Af ?_;refine AA (SB×Value×LR) (λ⟨o,k,f⟩=>[(5,k)]) (λ⟨o,k,f⟩ wr=>Cd w [.row k 3 1 (o).length f] wr λOz=>Ao (.int .i64) (gz H w wr Oz) o f/\Abx o=TI r) ?_ ?_
 ·refine Bx 1 Z<|A4 ?_;obtain⟨s,h⟩:=Ax h;refine AF (SB×Int×Value×LR×Nat) (λ⟨d,a,e,b,n⟩=>[(0,g),(1,j),(5,e),(6,No a)]) (λ⟨d,a,e,b,n⟩ wr=>Cd w [.row e 3 1 (d).length b] wr λOz=>Ao (.int .i64) (gz H w wr Oz) d b/\D6 (Ib a0 a1) n (d,a)=TI r) (λ⟨d,a,e,b,n⟩=>n) (([]:SB),0,TO,[],s) Z ⟨am,an,h⟩ ?_;rintro⟨d,a,e,b,nn52⟩ ar ⟨p,c,h⟩;obtain⟨s,az,rfl,h,q⟩:=Aw h;refine AR ?_;refine Ar h ?_ ?_<;>intro ac h
  ·refine AR ?_;refine Ah h λa2 ad h=>Al p (QxE _ _ (Ae p) (aa.mono  Ad) (ab.mono  Ad) ad) λa3 au u t=>Ap<|AH h ?_ ?_<;>intro ae h
   ·refine Af ?_;refine Bi [a] (r:=(.int .i64)) (λ_=>Fy _ _) u (.c1 Z .nil) λa4 a5 av af y ag=>Ag h λah h=>?_;have c:=c.mono (Aa (t.trans y));refine Bf (r:=(.int .i64)) 0 d [a] Z VV af Z c ag ah λao a6 ai aj ap ak=>Ag h λaw h=>Af ?_;have h:=AX.again h q;refine Ak (_,_,_,_,_) Z ⟨aj,ak,h⟩
   refine Ag h λax h=>Af ?_;have h:=AX.again h q;have c:=c.mono (Aa t);refine Ak (_,_,_,_,_) Z ⟨u,c,h⟩
  have h:=AX.out h q;refine Af ?_;refine Am (_,_,_) ⟨p,c,h⟩
 rintro⟨o,k,f⟩ ay ⟨x,z,h⟩;refine Af ?_
 cases h
 refine AD Z ⟨x.ext,_,Z,(x.Ev hH (i:=0) Z z)⟩
end
def AfQ{a:Qm}(h:a.length<=2048):NV a=TI (CK a):=by
 unfold NV;rw[Ab U];unfold Aj4;have hst:∀k,k<=a.length->(((iota k)++Xk (a.length - k) 0).length=a.length):=λk hk=>by rw[T6,Gt,List.length_replicate];omega
 have c:=BM (b:=Ez a) (m:=TI (CK a)) (λk=>((iota k)++Xk (a.length - k) 0,((k:Nat):Int))) a.length (λk hk=>?_) ?_ 0
 ·simpa[iota]using c
 ·show Ez a (_,_)=_
  unfold Ez;dsimp only;have:=hst k U;rw[Xu (by rw[List.length_replicate];omega),Ab (by rw[this];omega),Ab U,SV]
  congr 3
  have d:a.length - k=(a.length - (k+1))+1:=by omega
  rw[d,List.replicate_succ,List.set_append_right _ _ (by rw[Gt];exact KN _),Gt,Nat.sub_self,List.set_cons_zero];unfold iota;rw[Tl,K4,YW]
  rfl
 ·show Ez a (_,_)=_
  unfold Ez Nz;dsimp only;rw[Pb (by rw[List.length_replicate];omega),Nat.sub_self,List.replicate_zero,R0,Ab ⟨Z,by omega⟩]
def AfR(a:Qm):NW a=TI (if a.length<=2048 then(CK a,(0,0))else([],(3,-1))):=by
 unfold NW
 by_cases h:a.length<=2048
 ·rw[Pb U,Xu h,AfQ h];rfl
 ·rw[Xu U,Pb h];rfl
def AdE{a p:Qm}{i:Nat}(ha:a.length<=2048)(hp:p.length<=2048)(hi:i<=a.length):Pp a (i:Int) p=TI (pre (a.drop i) p):=by
 unfold Pp pre;rw[Ab U]
 by_cases h:i+p.length<=a.length
 ·rw[Xu U,Ab U,Ab U,SV,show((i:Int)+(p.length:Int)).toNat - i=p.length by omega]
  rfl
 ·rw[Pb U]
  have : ¬(a.drop i).take p.length=p:=λe=>by
   have:=congrArg XQ e;rw[Y4,U1]at this;omega
  simp[this]
end Go.Proofs.YtgaljodghpgdmaaGreatDoor
end
noncomputable section
namespace Go.L
open Go
def YB(c d:UInt8)(p l:Qm):pre (d::l) (c::p)=(decide (d=c)&&pre l p):=by
 unfold pre;simp only[PF,List.take_succ_cons,List.cons.injEq];rw[Z8];simp
def pre_nil(l:Qm):pre l []=true:=by simp[pre]
def UZ(c:UInt8)(p:Qm):pre [] (c::p)=false:=by simp[pre]
theorem Va:∀(p x:Qm),pre x p=true->Op.bytesLess x p=false
 | [],x,_=>by cases x <;> rfl
 | c::p,[],h=>by rw[UZ]at h;cases h
 | c::p,d::x,h=>by
  rw[YB]at h;simp only[ZA,Xf]at h;obtain⟨rfl,h⟩:=h;have:=Va p x h;have hd : ¬d<d:=λh=>by have:=QV.1 h;omega
  simp[Op.bytesLess,this,hd]
theorem QjQ:∀(p x y:Qm),Op.bytesLess x p=false->Op.bytesLess x y=true->pre y p=true->pre x p=true
 | [],x,_,_,_,_=>pre_nil x
 | c::p,[],_,h,_,_=>by simp[Op.bytesLess]at h
 | c::p,_::_,[],_,_,h=>by rw[UZ]at h;cases h
 | c::p,d::x,e::y,a,h2,h3=>by
  rw[YB]at h3 ⊢;simp only[ZA,Xf]at h3;obtain⟨rfl,h3⟩:=h3;simp only[Op.bytesLess,Bool.or_eq_false_iff,Bool.and_eq_false_iff,U2,ZA,Xf,decide_eq_false_iff_not,beq_iff_eq]at a h2
  rcases h2 with h2 | ⟨rfl,h2⟩
  ·exact absurd h2 a.1
  ·have b:Op.bytesLess x p=false:=by
    rcases a.2 with h | h
    ·simp at h
    ·exact h
   simp[QjQ p x y b h2 h3]
def cls(p l:Qm):Nat:=if pre l p then 1 else if Op.bytesLess l p then 0 else 2
def Acv{p x y:Qm}(h:Lib.compareBytes x y<0):cls p x<=cls p y:=by
 have hxy:=(Qk x y).1 h;unfold cls
 by_cases hy:pre y p=true
 ·rw[Xu hy]
  by_cases hx:pre x p=true
  ·rw[Xu hx];exact KN _
  ·rw[Pb hx]
   by_cases hl:Op.bytesLess x p=true
   ·rw[Xu hl];omega
   ·exact absurd (QjQ p x y (by simpa using hl) hxy hy) hx
 ·rw[Pb hy]
  by_cases hl:Op.bytesLess y p=true
  ·have hxp:Op.bytesLess x p=true:=(Qk _ _).1 (Qh _ _ _ h ((Qk _ _).2 hl));have hx : ¬pre x p=true:=λhx=>by rw[Va p x hx]at hxp;cases hxp
   rw[Pb hx,Xu hxp];omega
  ·rw[Pb hl]
   split
   ·omega
   ·split <;> omega
theorem Tt:∀(l:List Nat) (c i:Nat),l.Pairwise (·<=·)->i<l.length->(l.getD i 0<c↔i<l.countP (· < c))
 | [],_,_,_,h=>by cases h
 | x::l,c,i,hp,hi=>by
  have hq:=QU.1 hp
  by_cases hx:x<c
  ·rw[List.countP_cons_of_pos (by simpa using hx)]
   cases i with
   | zero=>simp[hx]
   | succ i=>
    have:=Tt l c i hq.2 (by simpa using hi);simp only[List.getD_cons_succ];omega
  ·rw[List.countP_cons_of_neg (by simpa using hx)]
   have a:l.countP (· < c)=0:=by
    rw[Se];intro y hy;have:=hq.1 y hy;simp;omega
   rw[a]
   cases i with
   | zero=>simp[hx]
   | succ i=>
    simp only[PF]at hi
    have hm:l.getD i 0∈l:=by
     rw[Sb,Pa U];exact Rs _
    have:=hq.1 _ hm;simp only[List.getD_cons_succ];omega
def AfS(n:Nat):iota (n+1)=iota n++[(n:Int)]:=by simp[iota,Tl]
theorem Acw(a p:Qm):∀k,((iota k).map λx=>cls p (a.drop x.toNat)).countP (· < 1)=(fs a p k).1/\((iota k).map λx=>cls p (a.drop x.toNat)).countP (· < 2)=(fs a p k).1+(fs a p k).2
 | 0=>by simp[iota,fs]
 | k+1=>by
  obtain⟨b,h2⟩:=Acw a p k;rw[AfS,K4,Ql,Ql,b,h2,Ake];simp only[Yu,List.map_nil,Tc,SV];unfold cls
  by_cases hp:pre (a.drop k) p=true
  ·rw[Xu hp,Xu hp];simp;omega
  ·rw[Pb hp,Pb hp]
   by_cases hl:Op.bytesLess (a.drop k) p=true
   ·rw[Xu hl,Xu hl];simp;omega
   ·rw[Pb hl,Pb hl];simp
def found(a p:Qm){i:Nat}(hi:i<a.length):pre (a.drop ((CK a).getD i Qq7).toNat) p=decide ((fs a p a.length).1<=i/\i<(fs a p a.length).1+(fs a p a.length).2):=by
 have hlen:i<((CK a).map λx=>cls p (a.drop x.toNat)).length:=by rw[Vx,MI];exact hi
 have hasc:((CK a).map λx=>cls p (a.drop x.toNat)).Pairwise (·<=·):=by
  rw[PO];exact(TW a).imp λh=>Acv h
 have hperm:=(MX a).map λx=>cls p (a.drop x.toNat);obtain⟨c1,c2⟩:=Acw a p a.length;have a1:=Tt _ 1 i hasc hlen;have a2:=Tt _ 2 i hasc hlen;rw[hperm.countP_eq,c1]at a1;rw[hperm.countP_eq,c2]at a2
 have hg:((CK a).map λx=>cls p (a.drop x.toNat)).getD i 0=cls p (a.drop ((CK a).getD i Qq7).toNat):=by
  rw[Sb,Pa hlen,Sb,Pa (by rw[MI];exact hi)];simp
 rw[hg]at a1 a2;rw[Z8,Xf]
 have hc:pre (a.drop ((CK a).getD i Qq7).toNat) p=true↔¬cls p (a.drop ((CK a).getD i Qq7).toNat)<1/\cls p (a.drop ((CK a).getD i Qq7).toNat)<2:=by
  generalize a.drop ((CK a).getD i Qq7).toNat=l;unfold cls
  by_cases hp:pre l p=true
  ·rw[Xu hp];simp[hp]
  ·rw[Pb hp]
   split <;> simp[hp]
 rw[hc,a1,a2];omega
def rmx(a:Qm)(i:Nat):Nat->Nat
 | 0=>0
 | k+1=>max (rmx a i k) (lcp (a.drop i) (a.drop (i+1+k)))
def tw(a:Qm):Nat->Nat×Nat
 | 0=>(0,0)
 | k+1=>if(tw a k).2<rmx a k (a.length - (k+1))then(k,rmx a k (a.length - (k+1)))else tw a k
def YC(x y:UInt8)(l m:Qm):Lib.compareBytes (x::l) (y::m)<0↔x.toNat<y.toNat\/x.toNat=y.toNat/\Lib.compareBytes l m<0:=by
 show(if x<y then(-1:Int)else if y<x then 1 else Lib.compareBytes l m)<0↔_
 by_cases a:x<y
 ·rw[Xu a];have:=QV.1 a;exact⟨λ_=>.inl this,λ_=>by decide⟩
 ·rw[Pb a];have h1' : ¬x.toNat<y.toNat:=λh=>a (QV.2 h)
  by_cases h2:y<x
  ·rw[Xu h2];have:=QV.1 h2;exact⟨λh=>absurd h Y5,λh=>by omega⟩
  ·rw[Pb h2];have h2' : ¬y.toNat<x.toNat:=λh=>h2 (QV.2 h);exact⟨λh=>.inr ⟨by omega,h⟩,λh=>by rcases h with h | h;exact absurd h h1';exact h.2⟩
def lt(a:Qm)(x y:Nat):Bool:=decide (Lib.compareBytes (a.drop x) (a.drop y)<0)
def Ji(a:Qm)(x:Nat):lt a x x=false:=by
 unfold lt;rw[UP];decide
def AhF{a:Qm}{x y:Nat}(h:lt a x y=true):lt a y x=false:=by
 unfold lt at *;have:=Z4 h;have:=MV (a.drop x) (a.drop y);exact UK U
def op(a:Qm):List Nat:=a.length::(CK a).map Int.toNat
def DK(a:Qm):(op a).length=a.length+1:=by simp[op,MI]
def Vb(a:Qm):(op a).Perm (VO (a.length+1)):=by
 have h:=(MX a).map Int.toNat
 have e:(iota a.length).map Int.toNat=VO a.length:=by
  unfold iota;rw[Xc]
  conv=>rhs;rw[<- List.map_id (VO a.length)]
  rfl
 rw[e]at h;unfold op;rw[Tl];exact(h.cons a.length).trans (List.perm_append_comm (l₁:=[a.length]))
theorem VU(a:Qm):(op a).Pairwise λx y=>lt a x y=true:=by
 unfold op;refine QU.2 ⟨λy hy=>?_,?_⟩
 ·obtain⟨z,hz,rfl⟩:=Rr.1 hy;have hz:=(Y7 a).1 hz;unfold lt;rw[List.drop_length]
  cases hd:a.drop z.toNat with
  | nil=>have:=congrArg XQ hd;rw[U1]at this;simp at this;omega
  | cons b l=>rfl
 ·rw[PO];exact(TW a).imp λh=>Xq h
theorem YD{α:Type}(f:α->α->Bool)(irr:∀x,f x x=false)(asy:∀x y,f x y=true->f y x=false):∀(l:List α),l.Pairwise (λx y=>f x y=true)->∀r (h:r<l.length),l.countP (λx=>f x l[r])=r
 | x::l,hp,0,_=>by
  have hx:=(QU.1 hp).1;simp only[List.getElem_cons_zero,QQ,irr];rw[Se.2 (λy hy=>by rw[asy _ _ (hx y hy)];decide)]
  rfl
 | x::l,hp,r+1,h=>by
  have h':r<l.length:=by simpa using h
  have hx:=(QU.1 hp).1;have ih:=YD f irr asy l (QU.1 hp).2 r h';simp only[List.getElem_cons_succ,QQ,ih,hx l[r] (Rs h')]
  rfl
def Akf(a:Qm){r:Nat}(h:r<(op a).length):(op a).countP (λx=>lt a x (op a)[r])=r:=YD (lt a) (Ji a) (λ_ _=>AhF) _ (VU a) r h
def Np(a:Qm){r:Nat}(h:r<(op a).length):(op a)[r]<=a.length:=by
 have:=(Vb a).mem_iff.1 (Rs h);have:=PQ.1 this;omega
def AeZ{a:Qm}{p:Nat}(h:p<=a.length):∃r,∃hr:r<(op a).length,(op a)[r]=p:=by
 have hm:p∈op a:=(Vb a).mem_iff.2 (PQ.2 U);obtain⟨r,hr,e⟩:=List.getElem_of_mem hm;exact⟨r,hr,e⟩
def AhG(a:Qm){k r:Nat}(hk:k<(op a).length)(hr:r<(op a).length):lt a (op a)[k] (op a)[r]=true↔k<r:=by
 have hp:=List.pairwise_iff_getElem.1 (VU a)
 rcases Nat.lt_trichotomy k r with h | h | h
 ·exact⟨λ_=>h,λ_=>hp k r hk hr h⟩
 ·subst h;rw[Ji];exact⟨λh=>(by cases h),λh=>by omega⟩
 ·rw[AhF (hp r k hr hk h)];exact⟨λh=>(by cases h),λh=>by omega⟩
def AhH{a:Qm}{k r:Nat}(hk:k<(op a).length)(hr:r<(op a).length)(h:(op a)[k]=(op a)[r]):k=r:=by
 have b:=AhG a hk hr;have h2:=AhG a hr hk;rw[h,Ji]at b;rw[h,Ji]at h2;simp only[SQ,false_iff]at b h2;omega
def Gw(a:Qm)(q:Nat):Int:=if q=0 then -1 else((a.getD (q - 1) Qq7).toNat:Int)
def sym(a:Qm):SB:=(op a).map (Gw a)
def D9(a:Qm):(sym a).length=a.length+1:=by rw[sym,Vx,DK]
def MK(a:Qm){r:Nat}(h:r<(op a).length):(sym a).getD r Qq7=Gw a (op a)[r]:=by
 unfold sym;rw[Sb,Y9,Pa h];rfl
def NY(a:Qm)(q:Nat):0<=Gw a q↔1<=q:=by unfold Gw;split <;> omega
def AhI(a:Qm)(q:Nat):Gw a q<256:=by
 unfold Gw;split
 ·omega
 ·have:=(a.getD (q - 1) Qq7).toNat_lt;omega
def K5{a:Qm}{q:Nat}(b:1<=q)(h:q<=a.length):a.drop (q - 1)=a.getD (q - 1) Qq7::a.drop q:=by
 rw[List.drop_eq_getElem_cons (by omega:q - 1<a.length),Sb,Pa (by omega:q - 1<a.length),show q - 1+1=q by omega];rfl
def EV(s:SB)(r:Nat):Nat:=1+(VO s.length).countP λk=>decide (0<=s.getD k Qq7/\(s.getD k Qq7<s.getD r Qq7\/s.getD k Qq7=s.getD r Qq7/\k<r))
def S7(s:SB):SB:=(VO s.length).map λr=>if s.getD r Qq7<0 then 0 else(EV s r:Int)
def Acy(s:SB):(S7 s).length=s.length:=by simp[S7]
def YE(s:SB){r:Nat}(h:r<s.length):(S7 s).getD r Qq7=if s.getD r Qq7<0 then 0 else(EV s r:Int):=by
 unfold S7;rw[Sb,Y9,List.getElem?_range h];rfl
def AfT{α β:Type}[Inhabited β](l:List α)(d:α)(f:α->Bool):(VO l.length).countP (λk=>f (l.getD k d))=l.countP f:=by
 have e:l=(VO l.length).map λk=>l.getD k d:=by
  apply List.ext_getElem
  ·simp
  ·intro k a h2;rw[List.getElem_map,List.getElem_range,Sb,Pa a];rfl
 conv=>rhs;rw[e,List.countP_map]
 rfl
def Aac(a:Qm)(g:Nat->Bool):(VO (sym a).length).countP (λk=>g ((op a).getD k 0))=(VO (a.length+1)).countP g:=by
 have h:=AfT (β:=Nat) (op a) 0 g;rw[DK]at h;rw[D9,h,(Vb a).countP_eq]
def Vc(n:Nat)(g:Nat->Bool)(a:g 0=false):(VO (n+1)).countP g=(VO n).countP λq=>g (q+1):=by
 rw[List.range_succ_eq_map,QQ,List.countP_map,a];rfl
def opD{a:Qm}{k:Nat}(h:k<(op a).length):(op a).getD k 0=(op a)[k]:=by rw[Sb,Pa h];rfl
theorem Akg{a:Qm}{r r':Nat}(hr:r<(op a).length)(hr':r'<(op a).length)(hp:(op a)[r]=(op a)[r']+1):EV (sym a) r=r':=by
 have hle:=Np a hr;generalize hq':(op a)[r']=p' at *;have d:(op a).countP (λx=>lt a x p')=r':=by have:=Akf a hr';rw[hq']at this;exact this
 rw[(Vb a).countP_eq,Tl,Ql,Tc]at d
 have hend:lt a a.length p'=true:=by
  unfold lt;rw[List.drop_length]
  cases hd:a.drop p' with
  | nil=>have:=congrArg XQ hd;rw[U1]at this;simp at this;omega
  | cons b l=>rfl
 rw[hend,Xu Z]at d
 have e:(VO (sym a).length).countP (λk=>decide (0<=(sym a).getD k Qq7/\((sym a).getD k Qq7<(sym a).getD r Qq7\/(sym a).getD k Qq7=(sym a).getD r Qq7/\k<r)))=(VO (sym a).length).countP (λk=>(λq=>decide (1<=q)&&lt a (q - 1) p') ((op a).getD k 0)):=by
  apply Rx;intro k hk;have hk:k<(op a).length:=by have:=PQ.1 hk;rw[D9]at this;rw[DK];exact this
  have hkl:=Np a hk;rw[MK a hk,MK a hr,opD hk,hp];have hlt:=AhG a hk hr;rw[hp]at hlt;generalize (op a)[k]=q at *;simp only[Xf,ZA];rw[NY,<- hlt];rw[hp]at hle
  constructor
  ·rintro⟨c,h2⟩;refine⟨c,?_⟩;have hd:=K5 c hkl;have hd':=K5 (q:=p'+1) U hle;rw[UW]at hd';unfold lt;rw[hd,hd'];refine Xq ((YC _ _ _ _).2 ?_);unfold Gw at h2;rw[Pb U,Pb U,UW]at h2
   rcases h2 with h2 | ⟨h2,h3⟩
   ·exact .inl U
   ·exact .inr ⟨by omega,Z4 h3⟩
  ·rintro⟨c,h2⟩;refine⟨c,?_⟩;have hd:=K5 c hkl;have hd':=K5 (q:=p'+1) U hle;rw[UW]at hd';unfold lt at h2;rw[hd,hd']at h2;unfold Gw;rw[Pb U,Pb U,UW]
   rcases(YC _ _ _ _).1 (Z4 h2)with h | ⟨h,h'⟩
   ·exact .inl U
   ·exact .inr ⟨by omega,Xq h'⟩
 unfold EV;rw[e,Aac a (λq=>decide (1<=q)&&lt a (q - 1) p'),Vc _ _ Rg]
 have f:(VO a.length).countP (λq=>decide (1<=q+1)&&lt a (q+1 - 1) p')=(VO a.length).countP (λx=>lt a x p'):=by
  apply Rx;intro k _;simp
 rw[f];omega
def lbP(s:SB)(c:Int)(k r:Nat):Bool:=decide (0<=s.getD r Qq7/\(s.getD r Qq7<c\/s.getD r Qq7=c/\r<k))
def LB(s:SB)(c:Int)(k:Nat):SB:=(VO s.length).map λr=>if lbP s c k r then(EV s r:Int)else 0
def NX(s:SB)(c:Int)(k:Nat):Nat:=1+(VO s.length).countP (lbP s c k)
def Qp(s:SB)(c:Int)(k:Nat):(LB s c k).length=s.length:=by simp[LB]
def Anq(s:SB)(c:Int)(k:Nat):NX s c k<=1+s.length:=by
 unfold NX;have:=List.countP_le_length (p:=lbP s c k) (l:=VO s.length);rw[Z3]at this;omega
def Amj{s:SB}{k:Nat}:NX s (s.getD k Qq7) k=EV s k:=Z
def Acz(s:SB){c:Int}(hc:0<=c)(k r:Nat):lbP s c (k+1) r=(lbP s c k r||decide (r=k/\s.getD k Qq7=c)):=by
 unfold lbP;rw[Z8];simp only[U2,Xf]
 constructor
 ·rintro⟨a,h2 | ⟨h2,h3⟩⟩
  ·exact .inl ⟨a,.inl h2⟩
  ·by_cases h:r=k
   ·subst h;exact .inr ⟨Z,h2⟩
   ·exact .inl ⟨a,.inr ⟨h2,by omega⟩⟩
 ·rintro(⟨a,h2 | ⟨h2,h3⟩⟩ | ⟨rfl,h⟩)
  ·exact⟨a,.inl h2⟩
  ·exact⟨a,.inr ⟨h2,by omega⟩⟩
  ·exact⟨by omega,.inr ⟨h,by omega⟩⟩
def Afa{s:SB}{c:Int}(hc:0<=c){k:Nat}(hk:k<s.length):LB s c (k+1)=if s.getD k Qq7=c then(LB s c k).set k (NX s c k)else LB s c k:=by
 apply List.ext_getElem?;intro r
 by_cases hr:r<s.length
 ·have b:(LB s c (k+1))[r]? = TI (if lbP s c (k+1) r then(EV s r:Int)else 0):=by simp[LB,hr]
  have a:(LB s c k)[r]? = TI (if lbP s c k r then(EV s r:Int)else 0):=by simp[LB,hr]
  rw[b,Acz s hc]
  by_cases h:s.getD k Qq7=c
  ·rw[Xu h,RN,Qp,a]
   by_cases hkr:k=r
   ·subst hkr;rw[Xu Z,Xu hk];have:(lbP s c k k||decide (k=k/\s.getD k Qq7=c))=true:=by rw[Xq (⟨Z,h⟩:k=k/\s.getD k Qq7=c),Bool.or_true]
    rw[this,Xu Z,<- Amj,h]
   ·rw[Pb hkr];have:decide (r=k/\s.getD k Qq7=c)=false:=UK (λe=>hkr e.1.symm);rw[this,Bool.or_false]
  ·rw[Pb h,a];have:decide (r=k/\s.getD k Qq7=c)=false:=UK (λe=>h e.2);rw[this,Bool.or_false]
 ·rw[Xt (by rw[Qp];omega)]
  split
  ·rw[Xt (by rw[List.length_set,Qp];omega)]
  ·rw[Xt (by rw[Qp];omega)]
theorem Afb{s:SB}{c:Int}(hc:0<=c){k:Nat}(hk:k<s.length):NX s c (k+1)=if s.getD k Qq7=c then NX s c k+1 else NX s c k:=by
 unfold NX
 have e:(VO s.length).countP (lbP s c (k+1))=(VO s.length).countP (lbP s c k)+(VO s.length).countP (λr=>decide (r=k/\s.getD k Qq7=c)):=by
  generalize VO s.length=l
  induction l with
  | nil=>rfl
  | cons r l ih=>
   rw[QQ,QQ,QQ,ih,Acz s hc]
   by_cases h:r=k/\s.getD k Qq7=c
   ·have h2:lbP s c k r=false:=by
     unfold lbP;rw[h.1,h.2];exact UK U
    rw[h2,Xq h];simp only[Bool.or_true,if_true,SQ,if_false];omega
   ·rw[UK h,Bool.or_false];simp only[SQ,if_false];omega
 rw[e]
 by_cases h:s.getD k Qq7=c
 ·rw[Xu h]
  have:(VO s.length).countP (λr=>decide (r=k/\s.getD k Qq7=c))=1:=by
   have a:(VO s.length).countP (λr=>decide (r=k/\s.getD k Qq7=c))=(VO s.length).count k:=by
    unfold List.count;apply Rx;intro r _;rw[Xf,beq_iff_eq];exact⟨λe=>e.1,λe=>⟨e,h⟩⟩
   rw[a,List.nodup_range.count,Xu (PQ.2 hk)]
  omega
 ·rw[Pb h];have:(VO s.length).countP (λr=>decide (r=k/\s.getD k Qq7=c))=0:=Se.2 (λr _=>by rw[UK (λe:r=k/\s.getD k Qq7=c=>h e.2)];decide);omega
def Ac0(s:SB)(c:Int){r:Nat}(hr:r<s.length):lbP s c s.length r=lbP s (c+1) 0 r:=by
 unfold lbP;rw[Z8];simp only[Xf];omega
def Akh(s:SB)(c:Int):LB s c s.length=LB s (c+1) 0:=by
 unfold LB;apply Ur;intro r hr;rw[Ac0 s c (PQ.1 hr)]
def Aki(s:SB)(c:Int):NX s c s.length=NX s (c+1) 0:=by
 unfold NX;rw[Rx λr hr=>by rw[Ac0 s c (PQ.1 hr)]]
def Akj(s:SB):LB s 0 0=Xk s.length 0:=by
 unfold LB
 rw[Ur (g:=λ_=>(0:Int)) (λr _=>by
  have:lbP s 0 0 r=false:=UK U;rw[this];rfl)]
 rw[List.map_const',Z3]
def Akk(s:SB):NX s 0 0=1:=by
 unfold NX
 rw[Se.2 (λr _=>by
  have:lbP s 0 0 r=false:=UK U;rw[this];decide)]
def Amk{s:SB}(h:∀r,r<s.length->s.getD r Qq7<256):LB s 256 0=S7 s:=by
 unfold LB S7;apply Ur;intro r hr;have:=h r (PQ.1 hr)
 by_cases a:s.getD r Qq7<0
 ·have e:lbP s 256 0 r=false:=UK U;rw[e,Xu a];rfl
 ·have e:lbP s 256 0 r=true:=Xq U;rw[e,Pb a];rfl
def wlk(s B:SB):Nat->SB->Nat->(SB×SB×SB)×Bool
 | 0,A,r=>((s,B,A.set r 0),decide (s.getD r Qq7 = -1))
 | i+1,A,r=>if s.getD r Qq7 = -1 then(([],[],[]),false)else wlk s B i (A.set r ((i+1:Nat):Int)) (B.getD r Qq7).toNat
end Go.L
namespace Go.Proofs.YtgaljodghpgdmaaGreatDoor
open Go Go.L
def AdF{s:SB}{c:Nat}(hl:s.length<=2049)(hc:c<256):
  Lk s (c:Int) (LB s c 0,(NX s c 0:Int),0)=TI (.inl (LB s ((c+1:Nat):Int) 0,(NX s ((c+1:Nat):Int) 0:Int),((c+1:Nat):Int))):=by
 have a:(0:Int)<=(c:Int):=by omega
 refine BM (b:=DI s (c:Int)) (λk=>(LB s c k,(NX s c k:Int),(k:Int))) s.length (λk hk=>?_) ?_ 0
 ·unfold DI;simp only;have:=Anq s c k;rw[Xu U,Ab U,SV]
  by_cases h:s.getD k Qq7=(c:Int)
  ·rw[Xu h,Ab (by rw[Qp];omega),Ab U,Ab U,Afa a hk,Xu h,Afb a hk,Xu h]
   rfl
  ·rw[Pb h,Ab U,Afa a hk,Pb h,Afb a hk,Pb h]
   rfl
 ·unfold DI;simp only;rw[Pb U];unfold Hy;rw[Ab U,Akh,Aki]
  rfl
theorem Aae{s B:SB}(hl:s.length<=2049)(hB:B.length=s.length)(hr:∀r,r<s.length->0<=B.getD r Qq7/\B.getD r Qq7<s.length):∀(i:Nat) (A:SB) (r:Nat),i<=s.length->A.length=s.length->r<s.length->
  H4 s s B (A,(r:Int),(i:Int))=TI (wlk s B i A r)
 | 0,A,r,_,hA,h=>by
  refine A2 (b:=CE s s B) (m:=TI _) ?_;unfold CE;simp only;rw[Pb U];unfold H3 Hz;rw[Ab U,Ab U,SV]
  rfl
 | i+1,A,r,hi,hA,h=>by
  have hb:CE s s B (A,(r:Int),((i+1:Nat):Int))=if s.getD r Qq7 = -1 then TI (.inr (([],[],[]),false))else TI (.inl (A.set r ((i+1:Nat):Int),(((B.getD r Qq7).toNat:Nat):Int),(i:Int))):=by
   unfold CE;simp only;rw[Xu U,Ab U,Ab U,SV]
   split
   ·rfl
   ·rw[Ab U,Ab U,Int.toNat_of_nonneg (hr r h).1,show((i+1:Nat):Int) - 1=(i:Int) by omega]
  unfold H4 wlk
  by_cases a:s.getD r Qq7 = -1
  ·rw[Xu a]at hb ⊢;exact A2 (m:=TI _) hb
  ·rw[Pb a]at hb ⊢;rw[AE hb];have:=hr r h;exact Aae hl hB hr i _ _ U (by rw[List.length_set];exact hA) U
def AhJ{s:SB}(a:0<s.length)(hl:s.length<=2049)(hs:∀r,r<s.length->s.getD r Qq7<256)(hr:∀r,r<s.length->(S7 s).getD r Qq7<s.length):
  Fq s=TI (wlk s (S7 s) (s.length - 1) (Xk s.length 0) 0):=by
 have e:((s.length:Int) - 1+1).toNat=s.length:=by omega
 unfold Fq;rw[Ab U,Ab U,Ab U,Ab U,Ab U,e];unfold H6;have hpos:∀r,r<s.length->0<=(S7 s).getD r Qq7/\(S7 s).getD r Qq7<s.length:=λr h=>⟨by rw[YE s h];split <;> omega,hr r h⟩
 have key:=BM (b:=DJ s s (Xk s.length 0)) (m:=TI (wlk s (S7 s) (s.length - 1) (Xk s.length 0) 0)) (λc=>(LB s c 0,(NX s c 0:Int),(c:Int))) 256 (λc hc=>by
  unfold DJ;simp only;rw[Xu U];exact AdF hl hc) (by
  unfold DJ;simp only;rw[Pb U];unfold H5;have:=Aae hl (Acy s) hpos (s.length - 1) (Xk s.length 0) 0 U Rg a;rw[show LB s ((256:Nat):Int) 0=S7 s from Amk hs];rw[show(s.length:Int) - 1=((s.length - 1:Nat):Int) by omega];exact congrArg (Sh Sum.inr) this) 0 (hi:=(by omega))
 rw[show LB s ((0:Nat):Int) 0=Xk s.length 0 from Akj s,show NX s ((0:Nat):Int) 0=1 from Akk s]at key;exact key
end Go.Proofs.YtgaljodghpgdmaaGreatDoor
end
noncomputable section
namespace Go.L
open Go
def Ac1{a:Qm}{r r':Nat}(hr:r<(op a).length)(hr':r'<(op a).length)(hp:(op a)[r]=(op a)[r']+1):(S7 (sym a)).getD r Qq7=(r':Int):=by
 rw[YE _ (by rw[D9,<- DK];exact hr),MK a hr];have h:0<=Gw a (op a)[r]:=(NY a _).2 U;rw[Pb U,Akg hr hr' hp]
def Akl{a:Qm}{r:Nat}(h:r<(sym a).length):(S7 (sym a)).getD r Qq7<(sym a).length:=by
 have hr:r<(op a).length:=by rw[DK,<- D9];exact h
 by_cases b:(op a)[r]=0
 ·rw[YE _ h,MK a hr,b];have:Gw a 0<0:=by unfold Gw;rw[Xu Z];decide
  rw[Xu this];omega
 ·have hle:=Np a hr;obtain⟨r',hr',e⟩:=AeZ (a:=a) (p:=(op a)[r] - 1) U;rw[Ac1 hr hr' U];rw[DK,<- D9]at hr';omega
def Aml{a:Qm}{r:Nat}(h:r<(sym a).length):(sym a).getD r Qq7<256:=by
 rw[MK a (by rw[DK,<- D9];exact h)];exact AhI a _
def opI(a:Qm):SB:=(op a).map λx:Nat=>(x:Int)
def YF(a:Qm):(opI a).length=a.length+1:=by rw[opI,Vx,DK]
theorem Ac2(a:Qm):∀(p:Nat) (A:SB) (r:Nat) (hr:r<(op a).length),(op a)[r]=p->A.length=a.length+1->(∀k (hk:k<(op a).length),p<(op a)[k]->A[k]? = TI (((op a)[k]:Nat):Int))->
  wlk (sym a) (S7 (sym a)) p A r=((sym a,S7 (sym a),opI a),true)
 | 0,A,r,hr,hp,hA,hk=>by
  have d:A.set r 0=opI a:=by
   apply List.ext_getElem?;intro k
   by_cases hkl:k<(op a).length
   ·have e:(opI a)[k]? = TI (((op a)[k]:Nat):Int):=by simp[opI,hkl]
    rw[RN,e]
    by_cases h:r=k
    ·subst h;rw[Xu Z,Xu (by rw[hA,<- DK];exact hr),hp];rfl
    ·rw[Pb h];refine hk k hkl (Nat.pos_of_ne_zero λf=>h (AhH hr hkl (by rw[hp,f])))
   ·rw[Xt (by rw[List.length_set,hA,<- DK];omega),Xt (by rw[YF,<- DK];omega)]
  unfold wlk;rw[d,MK a hr,hp]
  rfl
 | p+1,A,r,hr,hp,hA,hk=>by
  have hle:=Np a hr;obtain⟨r',hr',e⟩:=AeZ (a:=a) (p:=p) U;have hn:0<=Gw a (p+1):=(NY a _).2 U;unfold wlk;rw[MK a hr,hp,Pb U,Ac1 hr hr' U,SV];refine Ac2 a p _ r' hr' e (by rw[List.length_set];exact hA) λk b g=>?_;rw[RN]
  by_cases h:r=k
  ·subst h;rw[Xu Z,Xu (by rw[hA,<- DK];exact hr),hp]
  ·rw[Pb h];refine hk k b ?_
   rcases Nat.lt_or_ge (p+1) (op a)[k]with c | c
   ·exact c
   ·exact absurd (AhH hr b U) h
def Akm(a:Qm):(op a)[0]'(by rw[DK];omega)=a.length:=Z
def idx(a:Qm):SB×SB×SB:=(sym a,S7 (sym a),opI a)
end Go.L
namespace Go.Proofs.YtgaljodghpgdmaaGreatDoor
open Go Go.L
def AfU{a:Qm}(h:a.length<=2048):Fq (sym a)=TI (idx a,true):=by
 rw[AhJ (by rw[D9];omega) (by rw[D9];omega) (λ_=>Aml) (λ_=>Akl),D9,UW];rw[Ac2 a a.length _ 0 (by rw[DK];omega) (Akm a) Rg (λk hk h=>by have:=Np a hk;omega)]
 rfl
def Akn{x:Int}{l:SB}(h:l.length<=2048):FZ [[x],l]=TI (x::l):=by
 have a:∀s:Int×Int,JY [[x],l] s=Go.L.run (B1 [[x],l]) s:=λ_=>Z;have hn:(([[x],l]:List SB).length:Int)=2:=Z;have b:∀s:SB×Int,G8 [[x],l] s=Go.L.run (B0 [[x],l]) s:=λ_=>Z
 have a1:B1 [[x],l] (0,0)=TI (.inl (1,1)):=by
  unfold B1;rfl
 have a2:B1 [[x],l] (1,1)=TI (.inl (1+(l.length:Int),2)):=by
  unfold B1;simp only;have e:([[x],l]:List SB).getD (1:Int).toNat Qq7=l:=Z;rw[hn,Xu Y5,Ab Y5,e,Ab U,Pb U,Ab U]
  rfl
 have c:B0 [[x],l] ([],0)=TI (.inl ([x],1)):=by
  unfold B0;rfl
 have d:B0 [[x],l] ([x],1)=TI (.inl (x::l,2)):=by
  unfold B0;simp only;have e:([[x],l]:List SB).getD (1:Int).toNat Qq7=l:=Z;rw[hn,Xu Y5,Ab Y5,e,Ab (by simp only[T9];constructor <;> omega),Ab Y5]
  rfl
 have f:B0 [[x],l] (x::l,2)=(TI (x::l)).map .inr:=by
  unfold B0;simp only;rw[hn,Pb Y5];rfl
 have a3:B1 [[x],l] (1+(l.length:Int),2)=(TI (x::l)).map .inr:=by
  unfold B1;simp only;rw[hn,Pb Y5];unfold G9 JF H7;rw[Pb U,Ab Y5,Ab U,Xu U,Ab U]
  show Sh Sum.inr (G8 [[x],l] ([],0))=_
  rw[b,AE c,AE d,A2 f]
 unfold FZ;rw[a,AE a1,AE a2,A2 a3]
def AhK(a:Qm):opI a=(a.length:Int)::CK a:=by
 unfold opI op;rw[Yu,Xc]
 congr 1
 conv=>rhs;rw[<- List.map_id (CK a)]
 apply Ur;intro x hx;have:=(Y7 a).1 hx
 show((x.toNat:Nat):Int)=x
 omega
def Ako(a:Qm){r:Nat}(h:r<(op a).length):(opI a).getD r Qq7=(((op a)[r]:Nat):Int):=by
 unfold opI;rw[Sb,Y9,Pa h];rfl
def YG(a:Qm):MJ a=TI (if a.length<=2048 then(idx a,(0,0))else(([],[],[]),(3,-1))):=by
 unfold MJ;rw[AfR]
 by_cases h:a.length<=2048
 ·rw[Xu h,Xu h];rw[Wo,Xu ⟨Z,Z⟩,Ab U,Ab U,Akn (by rw[MI];exact h),Wo,<- AhK];have hl:=YF a;have ho:=DK a
  have key:=BM (b:=Gv a (opI a)) (m:=TI (idx a,((0:Int),(0:Int)))) (λk=>((sym a).take k,(k:Int))) (a.length+1) (λk hk=>by
   unfold Gv;simp only;have hk':k<(op a).length:=by omega
   have hle:=Np a hk';have htk:((sym a).take k).length=k:=by rw[Y4,D9];omega
   have hs:(sym a).take (k+1)=(sym a).take k++[Gw a (op a)[k]]:=by
    rw[Vf];have:(sym a)[k]? = TI (Gw a (op a)[k]):=by simp[sym,hk']
    rw[this];rfl
   rw[Xu U,Ab U,SV,Ako a hk']
   by_cases c:(op a)[k]=0
   ·rw[c]at hs ⊢;rw[Xu (show((0:Nat):Int)=0 from Z),Ab (by rw[htk];simp only[T9];constructor <;> omega),Ab U,hs]
    rfl
   ·rw[Pb U,Ab U,Ab U,Ab (by rw[htk];simp only[T9];constructor <;> omega),Ab U,hs];have d:(((op a)[k]:Int) - 1).toNat=(op a)[k] - 1:=by omega
    unfold Gw;rw[Pb c,d]
    rfl) (by
   unfold Gv;simp only;rw[Pb U,List.take_of_length_le (by rw[D9];omega)];unfold Mu;rw[AfU h]
   rfl) 0 (hi:=(by omega))
  exact key
 ·rw[Pb h,Pb h];rfl
open Go.E Go.RowKit Go.Shelf
def E1(H:PH):Prop:=
 ((∀c,c<256->GC H ⟨Tryz.Jw.g 2,c,none⟩=TI (.int .u8 (Lib.firstT c)))/\
 (∀i,i<16->GC H ⟨Tryz.Jw.g 3,2 * i,none⟩=TI (.int .u8 (Lib.accLo i))/\GC H ⟨Tryz.Jw.g 3,2 * i+1,none⟩=TI (.int .u8 (Lib.accHi i))))/\
 (∀w, Le H (hp w) -> Lib.TabIs Tryz.prog w "internal/strconv.uint64pow10" .u64 Lib.pow10Tab) /\
 (∃t p,GC H ⟨Tryz.W9.g 15,0,none⟩=TI (.iface t p))/\(∃t p,GC H ⟨Tryz.W9.g 16,0,none⟩=TI (.iface t p))
def E1.mono{H H':PH}(h:E1 H)(hs:Le H H'):E1 H':=by
 obtain⟨a,h2,⟨t,p,h3⟩,⟨t',p',b⟩⟩:=h;exact⟨⟨λc hc=>Hq hs (a.1 c hc),λi hi=>⟨Hq hs (a.2 i hi).1,Hq hs (a.2 i hi).2⟩⟩,λw hw=>h2 w (hs.trans hw),⟨t,p,Hq hs h3⟩,⟨t',p',Hq hs b⟩⟩
def E1.Ao8{w:World}(h:E1 (hp w)):Lib.Utf8Tabs (Tryz.Jw.g 2) (Tryz.Jw.g 3) w:=⟨h.1.1,h.1.2⟩
def F3(l:Qm):Option Zv:=Go.L.Ay (l≠[]) (TI (((Lib.decodeGo ⟨l.toArray⟩).1:Int),((Lib.decodeGo ⟨l.toArray⟩).2:Int)))
section
variable(w:World)(H:PH)(hH:Le H (hp w)) include hH
theorem Alz(hU:E1 H){u:Value}{l:Qm}(ha:As .byte H u l){r:Int×Int}(h:F3 l=TI r):
  Ok Tryz.prog 178 [u] w (λv w'=>Ext w w'/\v=.tuple #[.int .i32 r.1,.int .i64 r.2]):=by
 obtain⟨hk,h⟩:=Go.L.Fp h;obtain rfl:=Option.some.inj h;have hs:(ByteArray.mk l.toArray).size=l.length:=by simp[Vl]
 obtain⟨a,cap,rfl,h2,h3,f,g⟩:=ha.ex
 cases a with
 | none=>exact absurd (List.eq_nil_of_length_eq_zero (by have:=f Z;omega)) hk
 | some A=>
  obtain⟨d,i⟩:=g A Z hk;obtain⟨b,off,sp⟩:=A;simp only at d;subst d
  have hc:=Any7.utf8_DecodeRune Tryz.AhC ⟨l.toArray⟩ b off cap w (hU.mono hH).Ao8 (λj hj=>by
   rw[hs]at hj;obtain⟨c,hc,hcell⟩:=i j l[j] (Pa hj);obtain rfl:c=[.int .u8 (l[j].toNat:Int)]:=hc;have:=cell_of hH (hcell 0 _ Z);rw[show(Rp.byte).sz=1 from Z,Z5,Pf,Addr.add_lit]at this;rw[this];have e:(ByteArray.mk l.toArray).get! j=l[j]:=by simp[ByteArray.get!,hj]
   rw[e])
  rw[hs]at hc;refine⟨⟨Tryz.f178,_,Tryz.func178,Z,Z⟩,hc.mono λe w' he=>?_⟩;obtain⟨rfl,hb⟩:=he;exact⟨_,Z,Ext.off hb,Z⟩
end
end Go.Proofs.YtgaljodghpgdmaaGreatDoor
end
noncomputable section
namespace Go
abbrev Xg:=List (Wl×Wn)
end Go
namespace Go.Proofs.YtgaljodghpgdmaaGreatDoor
open Go Go.E Go.RowKit Go.L
set_option maxHeartbeats 1000000
set_option maxRecDepth 10000
open _root_.Go.Proofs.Tryz
def H8(a0:Wl×Wn)(a1:Wl):Option Int:=
 Xd (strings_Compare a0.1 a1) (λa=>TI a)
def LZ{a w:World}{H:PH}(hH:Le H (hp a)){O:List Bv}{a0:Wl×Wn}{a1:Wl}{va0_1:Value}(hL:AB a (Ha [] O) w)(i:As TD (gz H a w (Ha [] O)) va0_1 (a0.2)){r:Int}(h:H8 a0 a1=TI r):
  Ok prog 211 [.agg #[Pg a0.1,va0_1],Pg a1] w (λv w'=>v=No r/\AB a (Ha [] O) w'/\Le (fz w (Ha [] O)) (fz w' (Ha [] O))):=by
 refine Cx (n:=9) [(0,.agg #[Pg a0.1,va0_1]),(1,(Pg a1))] func211 Z Z Z Z ?_;have hT:=Le.refl (fz w (Ha [] O));refine A5<|B6 (t:=158) Z Z hL λk l b c _=>Af ?_;refine Ah h λm e h=>Al b (K2 _ _ (Ae b) e) λo j f d=>Af ?_
 cases h
 refine AD Z ?_;have g:=f.dT 0 Z;have hT:=hT.trans (c.trans (d.trans (fz_dT 0 Z)));exact⟨Z,g,hT⟩
def B8(a0:Xg)(a1:Wl)(a:Int):Option (Int×Bool):=
 if a<(a0.length:Int)then Ay (0<=a/\a<(a0.length:Int)) (Xd (H8 ((a0.getD a.toNat Qq7).1,(a0.getD a.toNat Qq7).2) a1) (λb=>TI (a,decide (b=0))))else TI (a,false)
def B7(a0:Xg)(a1:Wl):Int×Int->Option (Zv⊕(Int×Bool)):=λ⟨b,a⟩=>
 if b<a then Ay (AL (b+a)) (Ay (0<=(IntKind.i64.wrap ((IntKind.u64.wrap (b+a)) / 2))/\(IntKind.i64.wrap ((IntKind.u64.wrap (b+a)) / 2))<(a0.length:Int)) (Xd (H8 ((a0.getD ((IntKind.i64.wrap ((IntKind.u64.wrap (b+a)) / 2)).toNat) Qq7).1,(a0.getD ((IntKind.i64.wrap ((IntKind.u64.wrap (b+a)) / 2)).toNat) Qq7).2) a1) (λc=>if c<0 then Ay (AL ((IntKind.i64.wrap ((IntKind.u64.wrap (b+a)) / 2))+1)) (TI (Sum.inl (((IntKind.i64.wrap ((IntKind.u64.wrap (b+a)) / 2))+1),a)))else TI (Sum.inl (b,(IntKind.i64.wrap ((IntKind.u64.wrap (b+a)) / 2)))))))else Sh Sum.inr ((B8 a0 a1) b)
def Cv(a0:Xg)(a1:Wl)(s:Int×Int):Option (Int×Bool):=Go.L.run (B7 a0 a1) s
def Bq(a0:Xg)(a1:Wl):Option (Int×Bool):=
 (Cv a0 a1) (0,(a0.length:Int))
def Qkk{g w:World}{H:PH}(hH:Le H (hp g)){O:List Bv}{a0:Xg}{a1:Wl}{va0:Value}(hL:AB g (Ha [] O) w)(ae:As (.pair .st (.vec TD)) (gz H g w (Ha [] O)) va0 a0){r:Int×Bool}(h:Bq a0 a1=TI r):
  Ok prog 210 [va0,Pg a1,.func (.func 211) #[] #[]] w (λv w'=>v=.tuple #[No r.1,.bool r.2]/\AB g (Ha [] O) w'/\Le (fz w (Ha [] O)) (fz w' (Ha [] O))):=by
 refine Cx (n:=49) [(0,va0),(1,(Pg a1)),(2,.func (.func 211) #[] #[])] func210 Z Z Z Z ?_;have hT:=Le.refl (fz w (Ha [] O));refine Af ?_;refine AA Int (λe=>[(0,va0),(1,(Pg a1)),(2,.func (.func 211) #[] #[]),(8,No (a0.length:Int)),(9,No e)]) (λe wr=>Cd g (Ha [] O) wr λOz=>As (.pair .st (.vec TD)) (gz H g wr Oz) va0 a0/\Le (fz w (Ha [] O)) (fz wr Oz)/\(B8 a0 a1) e=TI r) ?_ ?_
 ·refine A4 ?_;obtain⟨l,h⟩:=Ax h;refine AF (Int×Int×Nat) (λ⟨b,a,n⟩=>[(0,va0),(1,(Pg a1)),(2,.func (.func 211) #[] #[]),(8,No (a0.length:Int)),(9,No b),(10,No a)]) (λ⟨b,a,n⟩ wr=>Cd g (Ha [] O) wr λOz=>As (.pair .st (.vec TD)) (gz H g wr Oz) va0 a0/\Le (fz w (Ha [] O)) (fz wr Oz)/\D6 (B7 a0 a1) n (b,a)=TI r) (λ⟨b,a,n⟩=>n) (0,(a0.length:Int),l) Z ⟨hL,ae,hT,h⟩ ?_;rintro⟨b,a,nn48⟩ af ⟨i,d,hT,h⟩;obtain⟨l,aj,rfl,h,j⟩:=Aw h;refine AR ?_;refine Ar h ?_ ?_<;>intro x h
  ·refine Ag h λag h=>AR ?_;refine AJ (Er Z)<|AJ (XZ (c:=1) (m:=2) Z Z Y5)<|AJ (Er Z)<|Af ?_;refine Ag h λo h=>A1 d ((IntKind.i64.wrap ((IntKind.u64.wrap (b+a)) / 2)).toNat) (BP o) (An o) ?_;rintro ak _ ⟨_,_,rfl,rfl,⟨e53v1,rfl,e53h1⟩⟩ y;refine AJ (AU y (Ae i))<|AK 1 Z<|Ah h λal z h=>DR Z Z (LZ (a0:=((a0.getD ((IntKind.i64.wrap ((IntKind.u64.wrap (b+a)) / 2)).toNat) Qq7).1,(a0.getD ((IntKind.i64.wrap ((IntKind.u64.wrap (b+a)) / 2)).toNat) Qq7).2)) (a1:=a1) (O:=(Ha [] O)) hH i e53h1 z) ?_;rintro _ am ⟨rfl,p,f⟩;refine BJ 1 Z<|Ar h ?_ ?_<;>intro aa h
   ·refine Ag h λah h=>Af ?_;have h:=AX.again h j;have d:=d.mono (Aa f);have hT:=hT.trans f;refine Ak (_,_,_) Z ⟨p,d,hT,h⟩
   refine Af ?_;have h:=AX.again h j;have d:=d.mono (Aa f);have hT:=hT.trans f;refine Ak (_,_,_) Z ⟨p,d,hT,h⟩
  have h:=AX.out h j;refine Af ?_;refine Am _ ⟨i,d,hT,h⟩
 rintro e ai ⟨k,q,hT,h⟩;refine FA 5 Z<|Bl 39 h ?_ ?_<;>intro s h
 ·refine Af ?_;refine Ag h λt h=>A1 q e.toNat (BP t) (An t) ?_;rintro an _ ⟨_,_,rfl,rfl,⟨e65v1,rfl,e65h1⟩⟩ ab;refine Aj s<|AJ (AU ab (Ae k))<|Af ?_;refine Ah h λao ac h=>DR Z Z (LZ (a0:=((a0.getD e.toNat Qq7).1,(a0.getD e.toNat Qq7).2)) (a1:=a1) (O:=(Ha [] O)) hH k e65h1 ac) ?_;rintro _ ap ⟨rfl,ad,u⟩;refine Af ?_
  cases h
  refine AD Z ?_;have hT:=hT.trans u;exact⟨Z,ad,hT⟩
 refine Af ?_
 cases h
 refine AD Z ⟨Z,k,hT⟩
def DL(a0:Int×Xg)(a1:Wl):Option (Wn):=
 Xd (Bq a0.2 a1) (λa=>if !a.2 then TI ([])else Ay (0<=a.1/\a.1<(a0.2.length:Int)) (TI ((a0.2.getD a.1.toNat Qq7).2)))
section
variable(w:World)(H:PH)(hH:Le H (hp w)) include hH
theorem Fs{a0:Int×Xg}{a1:Wl}{a:Value}(b:As (.pair .st (.vec TD)) H a (a0.2)){r:Wn}(h:DL a0 a1=TI r):
  Pd 160 [.agg #[No a0.1,a],Pg a1] w (λv w'=>∃e,v=e/\As TD (un H (nw w w')) e r):=by
 refine Ai 22 [(0,.agg #[No a0.1,a]),(1,(Pg a1))] func160 Z λhL=>A5<|B6 (t:=31) Z Z hL λq l f m _=>Af ?_;refine Ah h λo g h=>D5 (Qkk (a0:=a0.2) (a1:=a1) (O:=[.box l [No a0.1,a] 31]) hH f (b.mono  Ad) g) ?_;rintro _ s ⟨rfl,c,p⟩;refine AR ?_;refine AH h ?_ ?_<;>intro i h
 ·refine Af ?_
  cases h
  refine AD Z ⟨c.ext,_,Z,(As.nil _ _)⟩
 refine Af ?_;refine Ag h λd h=>A1 b o.1.toNat (BP d) (An d) ?_;rintro u _ ⟨_,_,rfl,rfl,⟨e7v1,rfl,e7h1⟩⟩ j;refine Af ?_;have k:=j.add 1;refine sH k (hH.trans c.arg)<|Af ?_
 cases h
 refine AD Z ⟨c.ext,_,Z,(e7h1.mono (Mn hH))⟩
def NZ(a0:Wl):Option (Wl×Int):=
 Ay (0<=(0:Int)/\(0:Int)<(a0.length:Int)) (if(48<=((a0.getD ((0:Int).toNat) Qq7).toNat:Int))/\(((a0.getD ((0:Int).toNat) Qq7).toNat:Int)<=57)then Ay ((a0.getD ((0:Int).toNat) Qq7).toNat<128) (TI ([a0.getD ((0:Int).toNat) Qq7],1))else if 97<=((a0.getD ((0:Int).toNat) Qq7).toNat:Int)then if((a0.getD ((0:Int).toNat) Qq7).toNat:Int)<=122 then Ay ((a0.getD ((0:Int).toNat) Qq7).toNat<128) (TI ([a0.getD ((0:Int).toNat) Qq7],1))else(if(65<=((a0.getD ((0:Int).toNat) Qq7).toNat:Int))/\(((a0.getD ((0:Int).toNat) Qq7).toNat:Int)<=90)then Ay (((a0.getD ((0:Int).toNat) Qq7 - (65:UInt8))+(97:UInt8)).toNat<128) (TI ([((a0.getD ((0:Int).toNat) Qq7 - (65:UInt8))+(97:UInt8))],1))else(if((a0.getD ((0:Int).toNat) Qq7).toNat:Int)<128 then TI (([]:Wl),1)else Xd (F3 a0) (λa=>if(a.1=65533)/\(a.2=1)then TI (([]:Wl),1)else Ay (0<=a.2/\a.2<=(a0.length:Int)) (TI ((a0.take a.2.toNat),a.2)))))else if(65<=((a0.getD ((0:Int).toNat) Qq7).toNat:Int))/\(((a0.getD ((0:Int).toNat) Qq7).toNat:Int)<=90)then Ay (((a0.getD ((0:Int).toNat) Qq7 - (65:UInt8))+(97:UInt8)).toNat<128) (TI ([((a0.getD ((0:Int).toNat) Qq7 - (65:UInt8))+(97:UInt8))],1))else(if((a0.getD ((0:Int).toNat) Qq7).toNat:Int)<128 then TI (([]:Wl),1)else Xd (F3 a0) (λb=>if(b.1=65533)/\(b.2=1)then TI (([]:Wl),1)else Ay (0<=b.2/\b.2<=(a0.length:Int)) (TI ((a0.take b.2.toNat),b.2)))))
theorem Qq6(hU:E1 H){a0:Wl}{c:Value}(a:As .byte H c a0){r:Wl×Int}(h:NZ a0=TI r):
  Pd 132 [c] w (λv w'=>v=.tuple #[Pg r.1,No r.2]):=by
 refine Ai 57 [(0,c)] func132 Z λhL=>AR ?_;refine Ag h λd h=>A1 a ((0:Int).toNat) (BP d) (An d) ?_;rintro p1 _ rfl aa;refine sH aa (hH.trans hL.arg)<|AR ?_;refine NC 2 2 Z Z Z Z Z Z<|AK 1 Z<|Bl 17 h ?_ ?_<;>intro ab h
 ·refine Af ?_;refine Cm<|FA 1 Z<|Ag h λac h=>AJ (Qf ac)<|Bu
 refine Af ?_;refine Bl 20 h ?_ ?_<;>intro ad h
 ·refine Af ?_;refine Ar h ?_ ?_<;>intro ae h
  ·refine FA 1 Z<|Ag h λe h=>AJ (Qf e)<|Bu
  refine FA 3 Z<|NC 2 2 Z Z Z Z Z Z<|BJ 1 Z<|Ar h ?_ ?_<;>intro f h
  ·refine FA 1 Z<|AJ (ZK 65 Z Z Z)<|AJ (ZK 97 Z Z Z)<|Ag h λg h=>AJ (Qf g)<|Bu
  refine Bx 3 Z<|Ar h ?_ ?_<;>intro i h
  ·exact Bu
  refine Af ?_;refine Ah h λaj j h=>Al hL (Alz _ _ (Ae hL) (hU.mono  Ad) (a.mono  Ad) j) λak ah k af=>AR ?_;refine NC 2 2 Z Z Z Z Z Z<|Ap<|Ar h ?_ ?_<;>intro l h
  ·exact Bu
  refine Af ?_;refine Ag h λm h=>Yf a m λal o=>AJ (O3 o (hH.trans k.arg))<|Bu
 refine Af ?_;refine BO<|FA 3 Z<|NC 2 2 Z Z Z Z Z Z<|BJ 1 Z<|Ar h ?_ ?_<;>intro p h
 ·refine FA 1 Z<|AJ (ZK 65 Z Z Z)<|AJ (ZK 97 Z Z Z)<|Ag h λq h=>AJ (Qf q)<|Bu
 refine Bx 3 Z<|Ar h ?_ ?_<;>intro s h
 ·exact Bu
 refine Af ?_;refine Ah h λam t h=>Al hL (Alz _ _ (Ae hL) (hU.mono  Ad) (a.mono  Ad) t) λan ai u ag=>AR ?_;refine NC 2 2 Z Z Z Z Z Z<|Ap<|Ar h ?_ ?_<;>intro x h
 ·exact Bu
 refine Af ?_;refine Ag h λy h=>Yf a y λao z=>AJ (O3 z (hH.trans u.arg))<|Bu
end
end Go.Proofs.YtgaljodghpgdmaaGreatDoor
end
noncomputable section
namespace Go
abbrev Wq:=List (Wl×Int×Int)
end Go
namespace Go.Proofs.YtgaljodghpgdmaaGreatDoor
open Go Go.E Go.RowKit Go.L
set_option maxHeartbeats 1000000
set_option maxRecDepth 10000
open _root_.Go.Proofs.Tryz
def Jy(c:Int)(d:Wl)(a:Wq)(b:Int):Option ((Wq×Int)⊕(Wq)):=
 Ay (Go.E.Dx 32 (a.length+1)) (Sh Sum.inr (TI ((a++[(d,c,b)]))))
def CB(a1:Wl)(d:Wq)(e:Int):Wl×Int->Option ((Wl×Int)⊕((Wq×Int)⊕(Wq))):=λ⟨c,a⟩=>
 if a<(a1.length:Int)then Ay (0<=a/\a<=(a1.length:Int)) (Xd (NZ (a1.drop a.toNat)) (λb=>if b.1=([]:Wl)then Ay (AL (a+b.2)) (if c=([]:Wl)then Sh Sum.inr (TI (Sum.inl (d,(a+b.2))))else Ay (Go.E.Dx 32 (d.length+1)) (Sh Sum.inr (TI (Sum.inl ((d++[(c,e,a)]),(a+b.2))))))else Ay (c.length+b.1.length<=9223372036854775807) (Ay (AL (a+b.2)) (TI (Sum.inl ((c++b.1),(a+b.2)))))))else Sh Sum.inr ((Jy e) c d a)
def AgC(a1:Wl)(b:Wq)(a:Int)(s:Wl×Int):Option ((Wq×Int)⊕(Wq)):=Go.L.run (CB a1 b a) s
def CC(a1:Wl):Wq×Int->Option ((Wq×Int)⊕(Wq)):=λ⟨b,a⟩=>
 if a<(a1.length:Int)then(AgC a1 b a) (([]:Wl),a)else Sh Sum.inr (TI b)
def Qjj(a1:Wl)(s:Wq×Int):Option (Wq):=Go.L.run (CC a1) s
def PI(a0:Wq)(a1:Wl):Option (Wq):=
 (Qjj a1) (a0,0)
def AiW{j w:World}{H:PH}(hH:Le H (hp j))(hU:E1 H){O:List Bv}{a0:Wq}{a1:Wl}{la0 Da0 ba0:Nat}{ca0:Loop}{va0:Value}{xsa0:LR}{va1_0:Value}{pa1:Addr}(a9:Ahe prog (.pair .st TD) 3 32 la0 Da0 ba0 ca0 101 105)(hL:AB j (Ha [.obj la0 (.loop ca0),.obj Da0 (.deferred (TI [])),.box ba0 [va0] 101,.row va0 105 3 (a0).length xsa0] O) w)(b0:Ao (.pair .st TD) (gz H j w (Ha [.obj la0 (.loop ca0),.obj Da0 (.deferred (TI [])),.box ba0 [va0] 101,.row va0 105 3 (a0).length xsa0] O)) a0 xsa0)(bd:As .byte (gz H j w (Ha [.obj la0 (.loop ca0),.obj Da0 (.deferred (TI [])),.box ba0 [va0] 101,.row va0 105 3 (a0).length xsa0] O)) va1_0 a1)(b1:Gp (gz H j w (Ha [.obj la0 (.loop ca0),.obj Da0 (.deferred (TI [])),.box ba0 [va0] 101,.row va0 105 3 (a0).length xsa0] O)) pa1 [va1_0]){r:Wq}(h:PI a0 a1=TI r):
  Ok prog 131 [.func (.yield la0) #[] #[],.pointer (TI pa1)] w (λv w'=>∃(u0:Value) (y0:LR),v=.tuple #[]/\AB j (Ha [.obj la0 (.loop ca0),.obj Da0 (.deferred (TI [])),.box ba0 [u0] 101,.row u0 105 3 (r).length y0] O) w'/\Le (fz w (Ha [.obj la0 (.loop ca0),.obj Da0 (.deferred (TI [])),.box ba0 [va0] 101,.row va0 105 3 (a0).length xsa0] O)) (fz w' (Ha [.obj la0 (.loop ca0),.obj Da0 (.deferred (TI [])),.box ba0 [u0] 101,.row u0 105 3 (r).length y0] O))/\Ao (.pair .st TD) (gz H j w' (Ha [.obj la0 (.loop ca0),.obj Da0 (.deferred (TI [])),.box ba0 [u0] 101,.row u0 105 3 (r).length y0] O)) r y0):=by
 refine Cx (n:=53) [(0,.func (.yield la0) #[] #[]),(1,.pointer (TI pa1))] func131 Z Z Z Z ?_;have hT:=Le.refl (fz w (Ha [.obj la0 (.loop ca0),.obj Da0 (.deferred (TI [])),.box ba0 [va0] 101,.row va0 105 3 (a0).length xsa0] O));refine X0 ?_;have ba:=hL.rG H;refine Bx 1 Z<|PW<|Ae9<|VA<|A4 ?_;obtain⟨a2,h⟩:=Ax h;refine AF (Wq×Int×Value×LR×Nat) (λ⟨k,a,f,d,n⟩=>[(0,.func (.yield la0) #[] #[]),(1,.pointer (TI pa1)),(3,No a)]) (λ⟨k,a,f,d,n⟩ wr=>Cd j (Ha [.obj la0 (.loop ca0),.obj Da0 (.deferred (TI [])),.box ba0 [f] 101,.row f 105 3 (k).length d] O) wr λOz=>Gp (gz H j wr Oz) pa1 [va1_0]/\As .byte (gz H j wr Oz) va1_0 a1/\Ao (.pair .st TD) (gz H j wr Oz) k d/\Le (fz w (Ha [.obj la0 (.loop ca0),.obj Da0 (.deferred (TI [])),.box ba0 [va0] 101,.row va0 105 3 (a0).length xsa0] O)) (fz wr Oz)/\D6 (CC a1) n (k,a)=TI r) (λ⟨k,a,f,d,n⟩=>n) (a0,0,va0,xsa0,a2) Z ⟨hL,(b1.mono ba),(bd.mono ba),(b0.mono ba),hT,h⟩ ?_;rintro⟨k,a,f,d,nn68⟩ cb ⟨ad,an,bb,a3,hT,h⟩;obtain⟨a2,bz,rfl,h,ae⟩:=Aw h;have z:=ad.rG H;refine AR ?_
 refine sH (an.mono z) (Ae ad)<|Af ?_;refine Ar h ?_ ?_<;>intro b2 h
 ·refine AR ?_;refine AJ (A8 (λ_=>Ahy _ _))<|Aq O8.e Z ad λci y b3 af _=>Ac 0 Z b3 Z λcj b4 ag=>Ap<|AA (Wl×Wq×Int×Value×LR) (λ⟨m,t,e,i,l⟩=>[(0,.func (.yield la0) #[] #[]),(3,No e),(4,(SX y))]) (λ⟨m,t,e,i,l⟩ wr=>Cd j (Ha [.box y [Pg m,No a,No 0] 105,.obj la0 (.loop ca0),.obj Da0 (.deferred (TI [])),.box ba0 [i] 101,.row i 105 3 (t).length l] O) wr λOz=>Ao (.pair .st TD) (gz H j wr Oz) t l/\Le (fz w (Ha [.obj la0 (.loop ca0),.obj Da0 (.deferred (TI [])),.box ba0 [va0] 101,.row va0 105 3 (a0).length xsa0] O)) (fz wr Oz)/\(Jy a) m t e=TI bz) ?_ ?_
  ·refine A4 ?_;obtain⟨ax,h⟩:=Ax h;have z:=z.trans (Aa (af.trans ag));have hT:=hT.trans (af.trans ag);refine AF (Wl×Int×Nat) (λ⟨g,c,n⟩=>[(0,.func (.yield la0) #[] #[]),(1,.pointer (TI pa1)),(3,No c),(4,(SX y))]) (λ⟨g,c,n⟩ wr=>Cd j (Ha [.box y [Pg g,No a,No 0] 105,.obj la0 (.loop ca0),.obj Da0 (.deferred (TI [])),.box ba0 [f] 101,.row f 105 3 (k).length d] O) wr λOz=>Gp (gz H j wr Oz) pa1 [va1_0]/\As .byte (gz H j wr Oz) va1_0 a1/\Ao (.pair .st TD) (gz H j wr Oz) k d/\Le (fz w (Ha [.obj la0 (.loop ca0),.obj Da0 (.deferred (TI [])),.box ba0 [va0] 101,.row va0 105 3 (a0).length xsa0] O)) (fz wr Oz)/\D6 (CB a1 k a) n (g,c)=TI bz) (λ⟨g,c,n⟩=>n) (([]:Wl),a,ax) Z ⟨b4,(an.mono z),(bb.mono z),(a3.mono z),hT,h⟩ ?_;rintro⟨g,c,nn155⟩ b7 ⟨u,o,x,he155_Ra0,hT,h⟩;obtain⟨ax,cc,rfl,h,ab⟩:=Aw h;have b:=u.rG H;refine AR ?_;refine sH (o.mono b) (Ae u)<|Af ?_;refine Ar h ?_ ?_<;>intro be h
   ·refine AR ?_;refine sH (o.mono b) (Ae u)<|AK 1 Z<|Ag h λbf h=>AbW (x.mono b) bf λcd bg=>Ah h λah bh h=>Al u (Qq6 _ _ (Ae u) (hU.mono  Ad) bg bh) λce b8 a4 p=>AR ?_;refine AJ (I5 Z Z)<|Ap<|Ar h ?_ ?_<;>intro bi h
    ·refine Af ?_;refine BW 0 Z Z Z a4 Z Z λay ai aa=>Ap<|FA 2 Z<|Ag h λbj h=>sD bj<|BJ 1 Z<|PW<|Ahc<|O4 (Cs (Cs (Cs (AQ (CI (AQ (Mp (AQ (CI (AQ (FE Hr)))))))))))<|Af ?_;refine Hs<|O4 (Cs (Cs (Cs (AQ (CI (AQ (Mp (AQ (CI (AQ (FE Hr)))))))))))<|Af ?_;refine Hs<|O4 (Cs (Cs (Cs (AQ (CI (AQ (Mp (AQ (CI (AQ (FE Hr)))))))))))<|AJ (ND Z Z)<|Hs<|O4 (Cs (Cs (Cs (AQ (CI (AQ (Mp (AQ (CI (AQ (FE Hr)))))))))))<|AK 1 Z<|Hs<|Ahd (s:=34) Z (λq=>?_) (λq=>?_)
     ·have h:=JQ (ZI q) h;refine QJ q<|O4 (Cs (Cs (Cs (AQ (CI (AQ (Mp (AQ (CI (AQ (FE Hr)))))))))))<|AK 1 Z<|Hs<|QJ q<|O4 (Cs (Cs (Cs (AQ (CI (AQ (Mp (AQ (CI (AQ (FE Hr)))))))))))<|Af ?_;refine Hs<|QJ q ?_;have aj:AB j (Ha [.box ba0 [f] 101,.row f 105 3 (k).length d,.box y [Pg g,No a,No c] 105,.obj la0 (.loop ca0),.obj Da0 (.deferred (TI []))] O) ay:=ai.BX [4,4] Z;have ao:=Bb [4,4] ai aj Z;have a5:AB j (Ha [.obj la0 (.loop ca0),.obj Da0 (.deferred (TI [])),.box ba0 [f] 101,.row f 105 3 (k).length d,.box y [Pg g,No a,No c] 105] O) ay:=aj.BX [4,4] Z;have ap:=Bb [4,4] aj a5 Z;refine Ag h λbk h=>?_;have b:=b.trans (Aa (p.trans (aa.trans (ao.trans ap))))
      have bl:=@a9 j ay H ((Ha [.box y [Pg g,No a,No c] 105] O)) f (.agg #[Pg g,No a,No c]) d [Pg g,No a,No c] k (g,a,c) hH a5 (he155_Ra0.mono b) Z ⟨_,_,Z,Z,⟨_,_,Z,Z,Z⟩⟩ bk;refine AbZ bl ?_;rintro cf ⟨b5,bm,bn,aq,ak⟩;refine QJ q<|O4 (Cs (Cs (Cs (AQ (CI (AQ (Mp (AQ (CI (AQ (FE Hr)))))))))))<|AK 1 Z<|Hs<|O4 (Cs (Cs (Cs (AQ (CI (AQ (Mp (AQ (CI (AQ (FE Hr)))))))))))<|Af ?_;refine Hs<|VJ<|BO ?_;have h:=AX.out h ab;refine Af ?_;have bo:=bn.dT 4 Z;have h:=AX.again h ae;have hT:=hT.trans (p.trans (aa.trans (ao.trans (ap.trans (aq.trans (fz_dT 4 Z))))));have b:=b.trans (Aa (aq.trans (fz_dT 4 Z)));have ak:=ak.mono (Aa (fz_dT 4 Z));refine Ak (_,_,_,_,_) Z ⟨bo,(o.mono b),(x.mono b),ak,hT,h⟩
     have h:=JP (ZJ q) h;refine O4 (Cs (Cs (Cs (AQ (CI (AQ (Mp (AQ (CI (AQ (FE Hr)))))))))))<|Af ?_;refine Hs<|O4 (Cs (Cs (Cs (AQ (CI (AQ (Mp (AQ (CI (AQ (FE Hr)))))))))))<|Af ?_;refine Hs<|O4 (Cs (Cs (Cs (AQ (CI (AQ (Mp (AQ (CI (AQ (FE Hr)))))))))))<|Af ?_;refine Hs<|O4 (Cs (Cs (Cs (AQ (CI (AQ (Mp (AQ (CI (AQ (FE Hr)))))))))))<|Af ?_;refine Hs<|O4 (Cs (Cs (Cs (AQ (CI (AQ (Mp (AQ (CI (AQ (FE Hr)))))))))))<|Af ?_;refine Hs<|VJ<|BO ?_;have h:=AX.out h ab;refine Af ?_;have bp:=ai.dT 0 Z;have h:=AX.again h ae;have b:=b.trans (Aa (p.trans (aa.trans (fz_dT 0 Z))));have hT:=hT.trans (p.trans (aa.trans (fz_dT 0 Z)));refine Ak (_,_,_,_,_) Z ⟨bp,(o.mono b),(x.mono b),(he155_Ra0.mono b),hT,h⟩
    refine Af ?_;refine Ag h λbq h=>AJ (De bq)<|Af ?_;refine BW 0 Z Z Z a4 Z Z λcg br ar=>Ag h λb9 h=>Af ?_;have h:=AX.again h ab;have b:=b.trans (Aa (p.trans ar));have hT:=hT.trans (p.trans ar);refine Ak (_,_,_) Z ⟨br,(o.mono b),(x.mono b),(he155_Ra0.mono b),hT,h⟩
   have h:=AX.out h ab;refine Af ?_;refine Am (_,_,_,_,_) ⟨u,(he155_Ra0.mono b),hT,h⟩
  have hT:=hT.trans (af.trans ag);rintro⟨m,t,e,i,l⟩ ca ⟨bs,ac,hT,h⟩;refine Af ?_;refine BW 0 Z Z Z bs Z Z λaz a6 au=>Ap<|Ahc<|O4 (Cs (AQ (CI (AQ (FE Hr)))))<|AK 1 Z<|Hs<|O4 (Cs (AQ (CI (AQ (FE Hr)))))<|Af ?_;refine Hs ?_;have al:AB j (Ha [.box ba0 [i] 101,.row i 105 3 (t).length l,.box y [Pg m,No a,No e] 105,.obj la0 (.loop ca0),.obj Da0 (.deferred (TI []))] O) az:=a6.BX [4,4] Z;have av:=Bb [4,4] a6 al Z;have a7:AB j (Ha [.obj la0 (.loop ca0),.obj Da0 (.deferred (TI [])),.box ba0 [i] 101,.row i 105 3 (t).length l,.box y [Pg m,No a,No e] 105] O) az:=al.BX [4,4] Z;have aw:=Bb [4,4] al a7 Z;refine Ag h λbt h=>?_;have ac:=ac.mono (Aa (au.trans (av.trans aw)))
  have bu:=@a9 j az H ((Ha [.box y [Pg m,No a,No e] 105] O)) i (.agg #[Pg m,No a,No e]) l [Pg m,No a,No e] t (m,a,e) hH a7 ac Z ⟨_,_,Z,Z,⟨_,_,Z,Z,Z⟩⟩ bt;refine AbZ bu ?_;rintro ch ⟨b6,bv,bw,bc,am⟩;refine VJ ?_;have h:=AX.out h ae;refine Af ?_;refine EA ?_
  cases h
  refine Aj7 ?_;have bx:=bw.dT 4 Z;have hT:=hT.trans (au.trans (av.trans (aw.trans (bc.trans (fz_dT 4 Z)))));have am:=am.mono (Aa (fz_dT 4 Z));exact⟨b6,bv,Z,bx,hT,am⟩
 have h:=AX.out h ae;refine Af ?_;refine Aha ?_
 cases h
 refine KX ⟨f,d,Z,ad,hT,(a3.mono z)⟩
end Go.Proofs.YtgaljodghpgdmaaGreatDoor
end
noncomputable section
namespace Go.Proofs.YtgaljodghpgdmaaGreatDoor
open Go Go.E Go.RowKit
def Iter(H:PH)(v:Value)(l:Qm):Prop:=∃p u,v=.func (.func 131) #[] #[.pointer (TI p)]/\Gp H p [u]/\As .byte H u l
def Iter.mono{H H':PH}{v:Value}{l:Qm}(h:Iter H v l)(hs:Le H H'):Iter H' v l:=by
 obtain⟨p,u,a,h2,h3⟩:=h;exact⟨p,u,a,h2.mono hs,h3.mono hs⟩
abbrev rpW:Rp (Qm×Int×Int):=.pair .st (.pair (.int .i64) (.int .i64))
noncomputable def Ve(l:Qm):Option (List (Qm×Int×Int)):=PI [] l
section
variable(w:World)(H:PH)(hH:Le H (hp w)) include hH
theorem Ac3{a0:Qm}{b:Value}(e:As .byte H b a0):
  Ok Tryz.prog 82 [b] w (λv w'=>Ext w w'/\Iter (un H (nw w w')) v a0):=by
 refine Cx (n:=4) [(0,b)] Tryz.func82 Z Z Z Z ?_;have hL:=AB.start w;refine A5<|Su (t:=24) Z e.one hL λc a d k _=>AK 1 Z<|Ap<|A5<|AK 2 Z<|Ap<|U9<|Xv Z Z ?_;have f:Gp (hp c) ⟨a,0,none⟩ [b]:=box_pT 0 d Z;have hn:a>=w.heap.size:=d.own _ (.head _) a Z;refine⟨d.ext,⟨a,0,none⟩,b,Z,⟨Z,λj u hj=>?_⟩,e.mono (Mn hH)⟩;have g:=f.2 j u hj
 have h2:un H (nw w c) a=hp c a:=by
  have h3:nw w c a=hp c a:=by unfold nw;rw[Xu hn];rfl
  cases h:hp c a with
  | none=>
   have:=d.aT 0 Z;have i:c.heap[a]? = none:=h;rw[show c.heap[a]? = _ from this]at i
   cases i
  | some o=>exact Gr a o (h3.trans h)
 simp only[Addr.add_lit,GC]at g ⊢;rw[h2];exact g
end
set_option maxRecDepth 10000 in
section
variable(w:World)(H:PH)(hH:Le H (hp w)) include hH
theorem AaX(hU:E1 H){p:Addr}{u:Value}{l0:Qm}(hpt:Gp H p [u])(hv:As .byte H u l0){r:List (Qm×Int×Int)}(h:PI [] l0=TI r):
  Ok Tryz.prog 130 [.slice none 0 0,.func (.func 131) #[] #[.pointer (TI p)]] w (λv w'=>Ext w w'/\B2 105 rpW H w w' v r):=by
 refine Af9 (k:=13) [(0,.slice none 0 0),(1,.func (.func 131) #[] #[.pointer (TI p)])] Tryz.func130 Z Z Z Z ?_;have hL:=AB.start w;refine A5<|Su (t:=101) Z Z hL λw1 d af ax _=>AK 1 Z<|Ap<|PW<|A5<|AK 1 Z<|Ap<|A4<|AjG (cap:=[.pointer (TI p)]) Z ⟨Tryz.f131,_,Tryz.func131,Z,Z⟩ af ?_;intro a fr fn l D w2 rec hrec ag ay
 have hY:Ahe Tryz.prog rpW 3 32 l D d rec 101 105:=by
  subst hrec;refine Ahi (p:=7) (k:=13) Z Z Z ⟨fr.size,Z,fr.get⟩ Z ?_;intro x0 x1 G P v y xs c m x hG hM he hy hx hc;obtain⟨xa,xb,xc⟩:=x;obtain⟨_,_,rfl,rfl,_,_,rfl,rfl,rfl⟩:=hx;refine ZM Z AjF<|Aq O8.e Z hM λw3 bx ah f _=>VE 0 Z Z hy O8.e ah Z Z (AV Z (AV Z (AV Z JO))) λw4 ai g=>HX<|Ahh (i:=1) Z ai Z λw5 b j=>Ahf<|ZM Z (AQ Ahg)<|AJ (O2 3 Z Tryz.underlying101 Z b Z Z)<|sC 0 Z O8.e b Z<|Bi [(xa,xb,xc)] (r:=rpW) (λ_=>Aci _ _ _ _) (hlen:=(show 1<=9223372036854775807 by decide)) (hH:=hG) b (.c3 ⟨_,_,Z,Z,_,_,Z,Z,Z⟩ .nil) λv6 w6 a6 aj n ak=>Bf (r:=rpW) 4 m [(xa,xb,xc)] Z Tryz.underlying101 (hH:=hG) aj Z (((he.mono (Aa (hH:=hG) f)).mono (Aa (hH:=hG) g)).mono (Aa (hH:=hG) j) |>.mono (Aa (hH:=hG) n)) ak hc λv7 w7 al o am an=>BW 3 Z Z (row_one (o.aT 4 Z)) o Z Z λw8 ao q=>HX<|Ow<|AaH (i:=1) ao Z ?_;intro w9 ap s;refine⟨Z,v7,al,ap.dT 0 Z,((((((f.trans g).trans j).trans n).trans am).trans q).trans s).trans (fz_dT 0 Z),?_⟩
  exact((an.mono (Aa (hH:=hG) q)).mono (Aa (hH:=hG) s)).mono (Aa (hH:=hG) (fz_dT 0 Z))
 obtain⟨aq,a3,a7⟩:=B3 rpW H 105 ag
 have ar:(yR l D d rec 101 105 3 (.slice none 0 0) ([]:List (Qm×Int×Int)).length []++[]).Perm (.row (.slice none 0 0) 105 rpW.sz ([]:List (Qm×Int×Int)).length []::[.obj l (.loop rec),.obj D (.deferred (TI [])),.box d [.slice none 0 0] 101]):=
  List.perm_append_comm (l₁:=([.obj l (.loop rec),.obj D (.deferred (TI [])),.box d [.slice none 0 0] 101]:List Bv)) (l₂:=([.row (.slice none 0 0) 105 3 0 []]:List Bv))
 have au:=aq.perm ar;have hc:=AiW hH hU (O:=[]) hY au .nil (hv.mono  Ad) (hpt.mono  Ad) h;refine hc.2.mono λe w5 ⟨v5,av,hR⟩=>⟨⟨v5,av⟩,?_⟩;obtain⟨u0,y0,_,aw,a5,ab⟩:=hR;refine⟨_,aw,λw6 z ac=>?_⟩;refine Ow<|VA<|A5<|AJ (O2 2 Z Tryz.underlying101 Z z Z Z)<|AK 1 Z<|Ap<|U9<|AjH (i:=1) (l:=[.tmp 4]) Z Z z Z ?_;intro w7 aa ad;exact⟨aa.ext,aa.Ev hH (i:=3) Z ((ab.mono (Aa ac)).mono (Aa ad))⟩
theorem YH(hU:E1 H){a:Value}{a0:Qm}(b:Iter H a a0){r:List (Qm×Int×Int)}(h:Ve a0=TI r):
  Ok Tryz.prog 81 [a] w (λv w'=>Ext w w'/\∃c,v=c/\B2 105 rpW H w w' c r):=by
 obtain⟨p,u,rfl,h2,h3⟩:=b;refine Cx (n:=5) [(0,.func (.func 131) #[] #[.pointer (TI p)])] Tryz.func81 Z Z Z Z<|A5<|AK 1 Z<|Ap<|A5<|AK 1 Z<|D5 (AaX w H hH hU h2 h3 h) ?_;intro v w' ⟨hx,ho⟩;refine AK 1 Z<|Ap<|U9<|Xv Z Z ⟨hx,_,Z,ho⟩
end
open Go.L
set_option maxHeartbeats 1000000
set_option maxRecDepth 10000
open _root_.Go.Proofs.Tryz
def KH(a0:Wl):Option (Wq×Zv):=
 if 2048<(a0.length:Int)then Xd (DG (3:Int) (-1:Int)) (λa=>TI ([],(a.1,a.2)))else Xd (Ve a0) (λb=>TI (b,(0,0)))
section
variable(w:World)(H:PH)(hH:Le H (hp w)) include hH
theorem Qx0(hU:E1 H){a0:Wl}{b:Value}(m:As .byte H b a0){r:Wq×Zv}(h:KH a0=TI r):
  Pd 44 [b] w (λv w'=>∃p,v=.tuple #[p,.agg #[No r.2.1,No r.2.2]]/\B2 105 (.pair .st TD) H w w' p (r.1)):=by
 refine Ai 12 [(0,b)] func44 Z λhL=>FA 1 Z<|Aq Av.e Z hL λw1 b1 a ab _=>AR ?_;refine Ar h ?_ ?_<;>intro q h
 ·refine A5<|Ah h λx4 s h=>Al a (C7 _ _ (Ae a) s) λw5 ag t ac=>AK 1 Z<|Ac 0 Z t Z λw6 l ad=>Af ?_
  cases h
  refine AP (.tmp Z) (.cell Z QW Z Av.e (box_pT 0 l Z)) ⟨l.ext,_,Z,B2.nil⟩
 refine Af ?_;refine A9 a (Ac3 _ _ (Ae a) (m.mono  Ad)) ?_;intro u8 w8 u x e ae;have y:=u.mono (Da a x);refine Ah h λx9 z h=>A9 e (YH _ _ (Ae e) (hU.mono  Ad) y z) ?_;rintro aa ah ⟨_,rfl,f⟩ o g j;obtain⟨af,g,j,c⟩:=f.take hH e o;refine AJ (A8 (λ_=>Bo _))<|AK 1 Z<|Ac 1 Z g Z λai d k=>Af ?_
 cases h
 refine AP (.tmp Z) (.cell Z QW Z Av.e (box_pT 1 d Z)) ?_;have c:=c.mono (Aa k);exact⟨d.ext,_,Z,(d.Ev hH (i:=0) Z c)⟩
def Oa(a0:Wl):Option Bool:=
 Ay (a0.length<=9223372036854775807) (Xd (Ve a0) (λa=>if(a.length:Int)=1 then Ay (0<=(0:Int)/\(0:Int)<(a.length:Int)) (TI (decide ((a.getD ((0:Int).toNat) Qq7).1=a0)))else TI false))
theorem AlN(hU:E1 H){a0:Wl}{r:Bool}(h:Oa a0=TI r):
  Pd 201 [Pg a0] w (λv w'=>v=.bool r):=by
 refine Ai 19 [(0,(Pg a0))] func201 Z λhL=>Af ?_;refine Ag h λg h=>YT (H:=H) hL g λv1 w1 z a t i=>A9 a (Ac3 _ _ (Ae a) i) ?_;intro u3 w3 j k b u;have l:=j.mono (Da a k);refine Ah h λx4 m h=>A9 b (YH _ _ (Ae b) (hU.mono  Ad) l m) ?_;rintro x w5 ⟨_,rfl,c⟩ o p y;have d:=c.BB hH b o;refine Af ?_;refine Bl 11 h ?_ ?_<;>intro q h
 ·refine Af ?_;refine Ag h λe h=>A1 d ((0:Int).toNat) (BP e) (An e) ?_;rintro p8 _ ⟨_,_,rfl,rfl,⟨_,_,rfl,rfl,rfl⟩⟩ s;have f:=s.add 0;refine Af ?_;refine sH f (Ae p)<|Af ?_;refine AJ (I5 Z Z)<|Bu
 exact Bu
def Ho(a0:Wl):Option Z7:=
 if 64<(a0.length:Int)then Xd (DG (3:Int) (-1:Int)) (λb=>TI ((b.1,b.2)))else Xd (Oa a0) (λc=>if !c then Xd (DG (6:Int) (-1:Int)) (λa=>TI ((a.1,a.2)))else TI ((0,0)))
theorem IS(hU:E1 H){a0:Wl}{r:Z7}(h:Ho a0=TI r):
  Pd 148 [Pg a0] w (λv w'=>v=.agg #[No r.1,No r.2]):=by
 refine Ai 12 [(0,(Pg a0))] func148 Z λhL=>A5<|Aq Av.e Z hL λw1 b1 a s _=>AR ?_;refine AJ (Dn Z)<|BJ 1 Z<|Ar h ?_ ?_<;>intro j h
 ·refine A5<|Ah h λx4 k h=>Al a (C7 _ _ (Ae a) k) λw5 z l t=>Ac 0 Z l Z λw6 e u=>Af ?_
  cases h
  refine Bz (.cell Z QW Z Av.e (box_pT 0 e Z)) ⟨e.ext,Z⟩
 refine AR ?_;refine Ah h λx8 m h=>Al a (AlN _ _ (Ae a) (hU.mono  Ad) m) λw9 aa b x=>BJ 1 Z<|AH h ?_ ?_<;>intro f h
 ·refine A5<|Ah h λab g h=>Al b (C7 _ _ (Ae b) g) λac y i o=>Ac 0 Z i Z λad c p=>Af ?_
  cases h
  refine Bz (.cell Z QW Z Av.e (box_pT 0 c Z)) ⟨c.ext,Z⟩
 refine Af ?_;refine AJ (A8 (λ_=>Bo _))<|Ac 0 Z b Z λae d q=>Af ?_
 cases h
 refine Bz (.cell Z QW Z Av.e (box_pT 0 d Z)) ⟨d.ext,Z⟩
end
end Go.Proofs.YtgaljodghpgdmaaGreatDoor
end
noncomputable section
namespace Go.L
open Go
def bt(l:Qm)(k:Nat):Nat:=(l.getD k Qq7).toNat
def cont(l:Qm)(k:Nat):Bool:=decide (k<l.length/\128<=bt l k/\bt l k<=191)
def pt3(l:Qm):Nat:=((bt l 0 - 224) * 64+(bt l 1 - 128)) * 64+(bt l 2 - 128)
def pt4(l:Qm):Nat:=(((bt l 0 - 240) * 64+(bt l 1 - 128)) * 64+(bt l 2 - 128)) * 64+(bt l 3 - 128)
def RG(l:Qm):Nat:=
 if 194<=bt l 0/\bt l 0<=223 then(if cont l 1 then 2 else 0)
 else if 224<=bt l 0/\bt l 0<=239 then(if cont l 1/\cont l 2/\2048<=pt3 l/\¬(55296<=pt3 l/\pt3 l<=57343)then 3 else 0)
 else if 240<=bt l 0/\bt l 0<=244 then(if cont l 1/\cont l 2/\cont l 3/\65536<=pt4 l/\pt4 l<=1114111 then 4 else 0)
 else 0
def asc(c:Nat):Bool:=decide ((48<=c/\c<=57)\/(97<=c/\c<=122)\/(65<=c/\c<=90))
def Ma(l:Qm):Nat:=if asc (bt l 0)then 1 else RG l
def Hk(c:UInt8):UInt8:=if 65<=(c.toNat:Int)/\(c.toNat:Int)<=90 then c+32 else c
def Akq{c:UInt8}(h:128<=c.toNat):Hk c=c:=by unfold Hk;rw[Pb U]
def Akr(a:Qm)(i k:Nat):bt (a.drop i) k=bt a (i+k):=by
 unfold bt;rw[Sb,Sb,Vk]
def AhM(l:Qm)(h:l≠[]):RG l<=l.length:=by
 have hl:=Kh.2 h;unfold RG cont
 split
 ·split
  ·rename_i a;have:=Z4 a;omega
  ·omega
 ·split
  ·split
   ·rename_i a;have:=Z4 a.2.1;omega
   ·omega
  ·split
   ·split
    ·rename_i a;have:=Z4 a.2.2.1;omega
    ·omega
   ·omega
def AdG(l:Qm)(h:l≠[]):Ma l<=l.length:=by
 have hl:=Kh.2 h;unfold Ma
 split
 ·omega
 ·exact AhM l h
def Aks{l:Qm}(h:bt l 0<128):RG l=0:=by
 unfold RG;rw[Pb U,Pb U,Pb U]
def X9{l:Qm}(_hs:RG l≠0):(l.take (RG l)).map Hk=l.take (RG l):=by
 have key:∀k,k<RG l->128<=bt l k:=by
  intro k hk;unfold RG at hk;unfold cont at hk
  split at hk
  ·split at hk
   ·rename_i a;have:=Z4 a;obtain h | h:k=0\/k=1:=by omega
    all_goals subst h;omega
   ·omega
  ·split at hk
   ·split at hk
    ·rename_i a;have h2:=Z4 a.1;have h3:=Z4 a.2.1;obtain h | h | h:k=0\/k=1\/k=2:=by omega
     all_goals subst h;omega
    ·omega
   ·split at hk
    ·split at hk
     ·rename_i a;have h2:=Z4 a.1;have h3:=Z4 a.2.1;have b:=Z4 a.2.2.1;obtain h | h | h | h:k=0\/k=1\/k=2\/k=3:=by omega
      all_goals subst h;omega
     ·omega
    ·omega
 apply List.ext_getElem Rg;intro k a h2;rw[List.getElem_map,List.getElem_take];apply Akq;have hk:k<RG l:=by simp at h2;omega
 have:=key k hk;have hkl:k<l.length:=by simp at h2;omega
 unfold bt at this;rw[Sb,Pa hkl]at this;exact this
def Ac4(l:Qm)(k:Nat):((ByteArray.mk l.toArray).get! k).toNat=bt l k:=by
 simp[ByteArray.get!,bt,Sb,getElem!_def]
 cases h:l[k]? <;> rfl
def Amn(l:Qm)(hne:l≠[])(m:128<=bt l 0):(RG l=0->Lib.decodeGo ⟨l.toArray⟩=(65533,1))/\(RG l≠0->(Lib.decodeGo ⟨l.toArray⟩).2=RG l/\RG l≠1):=by
 have hsz:(ByteArray.mk l.toArray).size=l.length:=by simp[Vl]
 have hl:=Kh.2 hne
 have hc:∀k,(decide (0+k<(ByteArray.mk l.toArray).size)&&((ByteArray.mk l.toArray).get! (0+k)).toNat / 64==2)=cont l k:=by
  intro k;rw[Q8,hsz,Ac4];unfold cont
  by_cases a:k<l.length
  ·by_cases h2:bt l k / 64=2
   ·rw[Xq a,Bool.true_and,beq_iff_eq.2 h2,Xq ⟨a,by omega,by omega⟩]
   ·rw[Xq a,Bool.true_and,beq_eq_false_iff_ne.2 h2,UK (λh=>h2 U)]
  ·rw[UK a,Bool.false_and,UK (λh=>a h.1)]
 unfold Lib.decodeGo;rw[hsz,Pb U];unfold Utf8.decode;simp only[hc];simp only[Q8,Ac4]
 have hv:∀c:Nat,Utf8.valid c=decide (c<55296\/(57344<=c/\c<=1114111)):=by
  intro c;rw[Z8];unfold Utf8.valid;simp only[U2,ZA,Xf];omega
 simp only[hv];have f1:cont l 1=true->128<=bt l 1/\bt l 1<=191:=λh=>(Z4 h).2;have f2:cont l 2=true->128<=bt l 2/\bt l 2<=191:=λh=>(Z4 h).2;have f3:cont l 3=true->128<=bt l 3/\bt l 3<=191:=λh=>(Z4 h).2;have hb:bt l 0<256:=Wm _;unfold RG pt3 pt4 Utf8.runeError;generalize bt l 0=b at *;generalize bt l 1=d at *;generalize bt l 2=f at *;generalize bt l 3=g at *;generalize cont l 1=c1 at *;generalize cont l 2=c2 at *;generalize cont l 3=c3 at *;simp only[ZA,beq_iff_eq,Xf]
 by_cases hA:194<=b/\b<=223
 ·rw[Xu hA,Pb (show ¬b<128 by omega)]
  by_cases a:c1=true
  ·have:=f1 a;rw[Xu a,Xu (show b / 32=6/\c1=true from⟨by omega,a⟩),Xu (show b % 32 * 64+d % 64>=128 by omega)];exact⟨λh=>absurd h Y5,λ_=>⟨Z,by decide⟩⟩
  ·rw[Pb a,Pb (show ¬(b / 32=6/\c1=true)from λh=>a h.2),Pb (show ¬((b / 16=14/\c1=true)/\c2=true)from λh=>by omega),Pb (show ¬(((b / 8=30/\c1=true)/\c2=true)/\c3=true)from λh=>by omega)];exact⟨λ_=>Z,λh=>absurd Z h⟩
 rw[Pb hA]
 by_cases hB:224<=b/\b<=239
 ·rw[Xu hB,Pb (show ¬b<128 by omega),Pb (show ¬(b / 32=6/\c1=true)from λh=>by omega)]
  by_cases a:c1=true/\c2=true
  ·have i:=f1 a.1;have j:=f2 a.2;rw[Xu (show(b / 16=14/\c1=true)/\c2=true from⟨⟨by omega,a.1⟩,a.2⟩)];have e:b % 16 * 4096+d % 64 * 64+f % 64=((b - 224) * 64+(d - 128)) * 64+(f - 128):=by omega
   rw[e]
   by_cases h2:2048<=((b - 224) * 64+(d - 128)) * 64+(f - 128)/\¬(55296<=((b - 224) * 64+(d - 128)) * 64+(f - 128)/\((b - 224) * 64+(d - 128)) * 64+(f - 128)<=57343)
   ·rw[Xu ⟨a.1,a.2,h2⟩,Xu ⟨h2.1,U⟩];exact⟨λh=>absurd h Y5,λ_=>⟨Z,by decide⟩⟩
   ·rw[Pb (λh=>h2 h.2.2),Pb (λh=>h2 ⟨h.1,by omega⟩)];exact⟨λ_=>Z,λh=>absurd Z h⟩
  ·rw[Pb (λh=>a ⟨h.1,h.2.1⟩),Pb (show ¬((b / 16=14/\c1=true)/\c2=true)from λh=>a ⟨h.1.2,h.2⟩),Pb (show ¬(((b / 8=30/\c1=true)/\c2=true)/\c3=true)from λh=>by omega)];exact⟨λ_=>Z,λh=>absurd Z h⟩
 rw[Pb hB]
 by_cases hC:240<=b/\b<=244
 ·rw[Xu hC,Pb (show ¬b<128 by omega),Pb (show ¬(b / 32=6/\c1=true)from λh=>by omega),Pb (show ¬((b / 16=14/\c1=true)/\c2=true)from λh=>by omega)]
  by_cases a:c1=true/\c2=true/\c3=true
  ·have i:=f1 a.1;have j:=f2 a.2.1;have n:=f3 a.2.2;rw[Xu (show((b / 8=30/\c1=true)/\c2=true)/\c3=true from⟨⟨⟨by omega,a.1⟩,a.2.1⟩,a.2.2⟩)];have e:b % 8 * 262144+d % 64 * 4096+f % 64 * 64+g % 64=(((b - 240) * 64+(d - 128)) * 64+(f - 128)) * 64+(g - 128):=by omega
   rw[e]
   by_cases h2:65536<=(((b - 240) * 64+(d - 128)) * 64+(f - 128)) * 64+(g - 128)/\(((b - 240) * 64+(d - 128)) * 64+(f - 128)) * 64+(g - 128)<=1114111
   ·rw[Xu ⟨a.1,a.2.1,a.2.2,h2⟩,Xu ⟨h2.1,by omega⟩];exact⟨λh=>absurd h Y5,λ_=>⟨Z,by decide⟩⟩
   ·rw[Pb (λh=>h2 h.2.2.2),Pb (λh=>h2 ⟨h.1,by omega⟩)];exact⟨λ_=>Z,λh=>absurd Z h⟩
  ·rw[Pb (λh=>a ⟨h.1,h.2.1,h.2.2.1⟩),Pb (λh=>a ⟨h.1.1.2,h.1.2,h.2⟩)];exact⟨λ_=>Z,λh=>absurd Z h⟩
 rw[Pb hC];refine⟨λ_=>?_,λh=>absurd Z h⟩;rw[Pb (show ¬b<128 by omega)]
 by_cases a:b / 32=6/\c1=true
 ·have:=f1 a.2;rw[Xu a,Pb (show ¬(b % 32 * 64+d % 64>=128) by omega)]
 ·rw[Pb a,Pb (show ¬((b / 16=14/\c1=true)/\c2=true)from λh=>by omega)]
  by_cases h2:((b / 8=30/\c1=true)/\c2=true)/\c3=true
  ·have i:=f1 h2.1.1.2;rw[Xu h2,Pb (λh=>by omega)]
  ·rw[Pb h2]
end Go.L
namespace Go.Proofs.YtgaljodghpgdmaaGreatDoor
open Go Go.L
def AfV{l:Qm}(hne:l≠[]):NZ l=TI (if Ma l=0 then([],1)else((l.take (Ma l)).map Hk,((Ma l:Nat):Int))):=by
 have hl:=Kh.2 hne;obtain⟨c,m,rfl⟩:=List.exists_cons_of_ne_nil hne;have i:(c::m).getD ((0:Int).toNat) Qq7=c:=Z;have eb:bt (c::m) 0=c.toNat:=Z;have hc:=c.toNat_lt;unfold NZ;rw[Ab ⟨by decide,by omega⟩,i]
 have hup:(65<=(c.toNat:Int))/\((c.toNat:Int)<=90)->Ay (((c - (65:UInt8))+(97:UInt8)).toNat<128) (TI ([((c - (65:UInt8))+(97:UInt8))],(1:Int)))=TI (if Ma (c::m)=0 then([],1)else(((c::m).take (Ma (c::m))).map Hk,((Ma (c::m):Nat):Int))):=by
  intro h
  have e:(c - (65:UInt8))+(97:UInt8)=c+32:=by
   apply UInt8.toNat.inj;rw[UInt8.toNat_add,UInt8.toNat_sub,UInt8.toNat_add];have j:(97:UInt8).toNat=97:=Z;have k:(65:UInt8).toNat=65:=Z;have g:(32:UInt8).toNat=32:=Z;omega
  have n:(c+32).toNat=c.toNat+32:=by
   rw[UInt8.toNat_add];have g:(32:UInt8).toNat=32:=Z;omega
  have d:Ma (c::m)=1:=by unfold Ma asc;rw[eb,Xu (Xq U)]
  rw[e,Ab U,d,Pb Y5]
  show TI ([c+32],(1:Int))=TI ([Hk c],1)
  unfold Hk;rw[Xu h]
 have hlo:(48<=(c.toNat:Int))/\((c.toNat:Int)<=57)\/(97<=(c.toNat:Int))/\((c.toNat:Int)<=122)->Ay (c.toNat<128) (TI ([c],(1:Int)))=TI (if Ma (c::m)=0 then([],1)else(((c::m).take (Ma (c::m))).map Hk,((Ma (c::m):Nat):Int))):=by
  intro h;have d:Ma (c::m)=1:=by unfold Ma asc;rw[eb,Xu (Xq U)]
  rw[Ab U,d,Pb Y5]
  show TI ([c],(1:Int))=TI ([Hk c],1)
  unfold Hk;rw[Pb U]
 have hnon:asc c.toNat=false->(if(c.toNat:Int)<128 then TI (([]:Qm),(1:Int))else Xd (F3 (c::m)) (λa=>if(a.1=(65533:Int))/\(a.2=(1:Int))then TI (([]:Qm),(1:Int))else Go.L.Ay (0<=a.2/\a.2<=((c::m).length:Int)) (TI (((c::m).take a.2.toNat),a.2))))=TI (if Ma (c::m)=0 then([],1)else(((c::m).take (Ma (c::m))).map Hk,((Ma (c::m):Nat):Int))):=by
  intro h;have d:Ma (c::m)=RG (c::m):=by unfold Ma;rw[Pb (by rw[eb,h];decide)]
  rw[d]
  by_cases b:(c.toNat:Int)<128
  ·rw[Xu b,Aks (by rw[eb];omega),Xu Z]
  ·rw[Pb b];have hd:=Amn (c::m) hne (by rw[eb];omega);unfold F3;rw[Ab hne,Wo]
   by_cases h2:RG (c::m)=0
   ·rw[hd.1 h2,Xu ⟨Z,Z⟩,Xu h2]
   ·obtain⟨h3,f⟩:=hd.2 h2;have o:=AhM (c::m) hne;simp only[h3];rw[Pb U,Ab ⟨by omega,by omega⟩,Pb h2,SV,X9 h2]
 by_cases b:(48<=(c.toNat:Int))/\((c.toNat:Int)<=57)
 ·rw[Xu b];exact hlo (.inl b)
 rw[Pb b]
 by_cases h2:97<=(c.toNat:Int)
 ·rw[Xu h2]
  by_cases h3:(c.toNat:Int)<=122
  ·rw[Xu h3];exact hlo (.inr ⟨h2,h3⟩)
  ·rw[Pb h3,Pb U];exact hnon (UK U)
 ·rw[Pb h2]
  by_cases f:(65<=(c.toNat:Int))/\((c.toNat:Int)<=90)
  ·rw[Xu f];exact hup f
  ·rw[Pb f];exact hnon (UK U)
end Go.Proofs.YtgaljodghpgdmaaGreatDoor
namespace Go.L
open Go
abbrev W:=Qm×Int×Int
abbrev WS:=(List W×Int)⊕List W
def fin(cur:Qm)(fr at':Nat):List W:=if cur=[]then[]else[(cur,(fr:Int),(at':Int))]
def WC(a:Qm):Nat->Nat->Qm->Nat->List W
 | 0,at',cur,fr=>fin cur fr at'
 | f+1,at',cur,fr=>
  if at'<a.length then
   if Ma (a.drop at')=0 then fin cur fr at'++WC a f (at'+1) [] (at'+1)
   else WC a f (at'+Ma (a.drop at')) (cur++((a.drop at').take (Ma (a.drop at'))).map Hk) fr
  else fin cur fr at'
def Tu(a:Qm):List W:=WC a (a.length+1) 0 [] 0
theorem Tv{a:Qm}{f at':Nat}{cur:Qm}{fr:Nat}(h:a.length<=at'):WC a f at' cur fr=fin cur fr at':=by
 cases f with
 | zero=>rfl
 | succ f=>unfold WC;rw[Pb U]
def AaY(cur:Qm)(fr at':Nat):(fin cur fr at').length<=1:=by unfold fin;split <;> simp
def XA{a:Qm}{i:Nat}(h:i<a.length):a.drop i≠[]:=λe=>by
 have:=congrArg XQ e;rw[U1,RZ]at this;omega
def Qq{a:Qm}{i:Nat}(h:i<a.length):i+Ma (a.drop i)<=a.length:=by
 have:=AdG _ (XA h);rw[U1]at this;omega
def XB{a:Qm}{i:Nat}(h:i<a.length):(((a.drop i).take (Ma (a.drop i))).map Hk).length=Ma (a.drop i):=by
 have:=AdG _ (XA h);rw[Vx,Y4];omega
end Go.L
namespace Go.Proofs.YtgaljodghpgdmaaGreatDoor
open Go Go.L
theorem Akt{a:Qm}(hs:a.length<=1000000000000):∀(f at':Nat) (L:List W),a.length<=at'+f->L.length<=at'->at'<=a.length+1->
  run (CC a) (L,(at':Int))=TI (L++WC a f at' [] at')/\
  ∀
   (cur:Qm) (fr:Nat),(at'<a.length\/cur≠[])->at'<=a.length->cur.length<=at'->∃m,run (CB a L (fr:Int)) (cur,(at':Int))=TI m/\
   (match m with | .inl s=>run (CC a) s=some (L++WC a f at' cur fr) | .inr r=>r=L++WC a f at' cur fr):=by
 intro f
 induction f with
 | zero=>
  intro at' L hf hL ha
  constructor
  ·rw[Tv U];refine A2 (m:=TI (L++fin [] at' at')) ?_;unfold CC;simp only;rw[Pb U];unfold fin;rw[Xu Z,R0]
  ·intro cur fr hc hle hcl;have hc:cur≠[]:=hc.resolve_left U;refine⟨.inr (L++fin cur fr at'),?_,Z⟩;refine A2 (m:=TI (Sum.inr (L++fin cur fr at'):WS)) ?_;unfold CB Jy;simp only;rw[Pb U,Ab U];unfold fin;rw[Pb hc]
   rfl
 | succ f ih=>
  intro at' L hf hL ha
  have B:∀(cur:Qm) (fr:Nat),(at'<a.length\/cur≠[])->at'<=a.length->cur.length<=at'->∃m,run (CB a L (fr:Int)) (cur,(at':Int))=TI m/\
   (match m with | .inl s=>run (CC a) s=some (L++WC a (f+1) at' cur fr) | .inr r=>r=L++WC a (f+1) at' cur fr):=by
   intro cur fr hc hle hcl
   by_cases h:at'<a.length
   ·have hroom:=Qq h;have hlow:=XB h;have b:=AfV (XA h);unfold WC;rw[Xu h]
    by_cases d:Ma (a.drop at')=0
    ·rw[Xu d]at b ⊢;have e:(((at':Nat):Int)+1)=((at'+1:Nat):Int):=by omega
     by_cases hcur:cur=[]
     ·have c:=(ih (at'+1) L U U U).1;refine⟨.inl (L,((at'+1:Nat):Int)),?_,?_⟩
      ·refine A2 (m:=TI (Sum.inl (L,((at'+1:Nat):Int)):WS)) ?_;unfold CB;simp only;rw[Xu U,Ab ⟨by omega,by omega⟩,SV,b,Wo];simp only;rw[Xu trivial,Ab U,Xu hcur,e]
      ·simp only;rw[c];unfold fin;rw[Xu hcur,Qx]
     ·have c:=(ih (at'+1) (L++[(cur,(fr:Int),(at':Int))]) U (by rw[T6,T9];omega) U).1;refine⟨.inl (L++[(cur,(fr:Int),(at':Int))],((at'+1:Nat):Int)),?_,?_⟩
      ·refine A2 (m:=TI (Sum.inl (L++[(cur,(fr:Int),(at':Int))],((at'+1:Nat):Int)):WS)) ?_;unfold CB;simp only;rw[Xu U,Ab ⟨by omega,by omega⟩,SV,b,Wo];simp only;rw[Xu trivial,Ab U,Pb hcur,Ab U,e]
      ·simp only;rw[c];unfold fin;rw[Pb hcur,YW]
    ·rw[Pb d]at b ⊢;have hne:((a.drop at').take (Ma (a.drop at'))).map Hk≠[]:=λe=>by rw[e,RZ]at hlow;omega
     obtain⟨m,c,h2⟩:=(ih (at'+Ma (a.drop at')) L U U U).2 (cur++((a.drop at').take (Ma (a.drop at'))).map Hk) fr (.inr (λe=>hne (List.append_eq_nil_iff.1 e).2)) hroom (by rw[T6,hlow];omega);refine⟨m,?_,h2⟩;rw[<- c];refine AE ?_;unfold CB;simp only;rw[Xu U,Ab ⟨by omega,by omega⟩,SV,b,Wo];simp only;rw[Pb hne,Ab U,Ab U]
     rfl
   ·have hc:cur≠[]:=hc.resolve_left h;rw[Tv U];refine⟨.inr (L++fin cur fr at'),?_,Z⟩;refine A2 (m:=TI (Sum.inr (L++fin cur fr at'):WS)) ?_;unfold CB Jy;simp only;rw[Pb U,Ab U];unfold fin;rw[Pb hc]
    rfl
  refine⟨?_,B⟩
  by_cases h:at'<a.length
  ·obtain⟨m,c,h2⟩:=B [] at' (.inl h) U Rg
   have hb:CC a (L,(at':Int))=TI m:=by
    unfold CC;simp only;rw[Xu U];exact c
   cases m with
   | inl s=>rw[AE hb];exact h2
   | inr r=>rw[A2 (m:=TI r) hb,h2]
  ·rw[Tv U];refine A2 (m:=TI (L++fin [] at' at')) ?_;unfold CC;simp only;rw[Pb U];unfold fin;rw[Xu Z,R0]
def Ajp{a:Qm}(hs:a.length<=1000000000000):Ve a=TI (Tu a):=by
 have:=(Akt hs (a.length+1) 0 [] U Rg U).1;rw[Qx]at this;exact this
theorem AfW{a:Qm}(hs:a.length<=1000000000000):Oa a=TI (decide ((Tu a).map TJ=[a])):=by
 unfold Oa;rw[Ab U,Ajp hs,Wo];generalize Tu a=l
 match l with
 | []=>rw[Pb Rg];simp
 | [x]=>rw[Xu (show(([x].length:Nat):Int)=1 from Z),Ab Rg];simp
 | x::y::z=>rw[Pb U];simp
open Go.E Go.RowKit
set_option maxHeartbeats 1000000
set_option maxRecDepth 10000
open _root_.Go.Proofs.Tryz
def Jz(a b:Int):Option Int:=
 if a=3 then if b<2048 then TI (0)else Xd (Eb b (55296:Int) (57343:Int)) (λc=>if c then TI (0)else if a=4 then Xd (Eb b (65536:Int) (1114111:Int)) (λd=>if !d then TI (0)else TI a)else TI a)else if a=4 then Xd (Eb b (65536:Int) (1114111:Int)) (λe=>if !e then TI (0)else TI a)else TI a
def Im(a0:Wl)(a1 c:Int):Int×Int->Option (Zv⊕(Int)):=λ⟨b,a⟩=>
 if a<c then Ay (AL (a1+a)) (Ay (0<=(a1+a)/\(a1+a)<(a0.length:Int)) (Xd (Eb ((a0.getD ((a1+a).toNat) Qq7).toNat:Int) (128:Int) (191:Int)) (λd=>if !d then Sh Sum.inr (TI (0))else Ay (AL (64 * b)) (Ay (AL ((64 * b)+((a0.getD ((a1+a).toNat) Qq7).toNat:Int))) (Ay (AL (((64 * b)+((a0.getD ((a1+a).toNat) Qq7).toNat:Int)) - 128)) (Ay (AL (a+1)) (TI (Sum.inl ((((64 * b)+((a0.getD ((a1+a).toNat) Qq7).toNat:Int)) - 128),(a+1))))))))))else Sh Sum.inr ((Jz c) b)
def Ob(a0:Wl)(a1 a:Int)(s:Int×Int):Option Int:=Go.L.run (Im a0 a1 a) s
def Gx(a0:Wl)(a1 a b:Int):Option Int:=
 if a=0 then TI (0)else Ay (AL (a1+a)) (if(a0.length:Int)<(a1+a)then TI (0)else(Ob a0 a1 a) (b,1))
def J0(a0:Wl)(a1 a b:Int):Option Int:=
 Xd (Eb ((a0.getD a1.toNat Qq7).toNat:Int) (240:Int) (244:Int)) (λc=>if c then Ay (AL (((a0.getD a1.toNat Qq7).toNat:Int) - 240)) ((Gx a0 a1) (4:Int) (((a0.getD a1.toNat Qq7).toNat:Int) - 240))else(Gx a0 a1) a b)
def Ll(a0:Wl)(a1 a b:Int):Option Int:=
 Xd (Eb ((a0.getD a1.toNat Qq7).toNat:Int) (224:Int) (239:Int)) (λc=>if c then Ay (AL (((a0.getD a1.toNat Qq7).toNat:Int) - 224)) ((J0 a0 a1) (3:Int) (((a0.getD a1.toNat Qq7).toNat:Int) - 224))else(J0 a0 a1) a b)
def Tw(a0:Wl)(a1:Int):Option Int:=
 Ay (0<=a1/\a1<(a0.length:Int)) (Xd (Eb ((a0.getD a1.toNat Qq7).toNat:Int) (194:Int) (223:Int)) (λa=>if a then Ay (AL (((a0.getD a1.toNat Qq7).toNat:Int) - 192)) ((Ll a0 a1) (2:Int) (((a0.getD a1.toNat Qq7).toNat:Int) - 192))else(Ll a0 a1) (0:Int) (0:Int)))
section
variable(w:World)(H:PH)(hH:Le H (hp w)) include hH
theorem AaZ{a0:Wl}{a1:Int}{d:Value}(t:As .byte H d a0){r:Int}(h:Tw a0 a1=TI r):
  Pd 170 [d,No a1] w (λv w'=>v=No r):=by
 refine Ai 79 [(0,d),(1,No a1)] func170 Z λhL=>Af ?_;refine Ag h λaq h=>A1 t a1.toNat (BP aq) (An aq) ?_;rintro p1 _ rfl a4;refine sH a4 (hH.trans hL.arg)<|AJ (Er (GQ _))<|Af ?_;refine AA Zv (λ⟨e,f⟩=>[(0,d),(1,No a1),(5,No ((a0.getD a1.toNat Qq7).toNat:Int)),(6,No e),(7,No f)]) (λ⟨e,f⟩ wr=>AB w [] wr/\(Ll a0 a1) e f=TI r) ?_ ?_
 ·refine FA 1 Z<|Ah h λca ar h=>Al hL (Db _ _ (Ae hL) ar) λcb bp u a9=>Ap<|AH h ?_ ?_<;>intro au h
  ·refine Ag h λbq h=>Af ?_;refine Am (_,_) ⟨u,h⟩
  refine Ca<|Am (_,_) ⟨u,h⟩
 rintro⟨e,f⟩ br ⟨x,h⟩;refine AA Zv (λ⟨g,i⟩=>[(0,d),(1,No a1),(5,No ((a0.getD a1.toNat Qq7).toNat:Int)),(6,No g),(7,No i)]) (λ⟨g,i⟩ wr=>AB w [] wr/\(J0 a0 a1) g i=TI r) ?_ ?_
 ·refine FA 1 Z<|Ah h λcc av h=>Al x (Db _ _ (Ae x) av) λcd bs y ba=>Ap<|AH h ?_ ?_<;>intro aw h
  ·refine Ag h λbt h=>Af ?_;refine Am (_,_) ⟨y,h⟩
  refine Ca<|Am (_,_) ⟨y,h⟩
 rintro⟨g,i⟩ bu ⟨z,h⟩;refine AA Zv (λ⟨c,j⟩=>[(0,d),(1,No a1),(6,No c),(7,No j)]) (λ⟨c,j⟩ wr=>AB w [] wr/\(Gx a0 a1) c j=TI r) ?_ ?_
 ·refine FA 1 Z<|Ah h λce ax h=>Al z (Db _ _ (Ae z) ax) λcf bv aa bb=>Ap<|AH h ?_ ?_<;>intro ay h
  ·refine Ag h λbw h=>Af ?_;refine Am (_,_) ⟨aa,h⟩
  refine Ca<|Am (_,_) ⟨aa,h⟩
 rintro⟨c,j⟩ bx ⟨az,h⟩;refine AR ?_;refine Bl 30 h ?_ ?_<;>intro a2 h
 ·refine Af ?_;refine Cm<|Bu
 refine Ag h λbz h=>Af ?_;refine Ar h ?_ ?_<;>intro a3 h
 ·exact Bu
 refine Af ?_;refine AA Int (λk=>[(6,No c),(8,No k)]) (λk wr=>AB w [] wr/\(Jz c) k=TI r) ?_ ?_
 ·refine Bx 1 Z<|A4 ?_;obtain⟨p,h⟩:=Ax h;refine AF (Int×Int×Nat) (λ⟨b,a,n⟩=>[(0,d),(1,No a1),(6,No c),(8,No b),(9,No a)]) (λ⟨b,a,n⟩ wr=>AB w [] wr/\D6 (Im a0 a1 c) n (b,a)=TI r) (λ⟨b,a,n⟩=>n) (j,1,p) Z ⟨az,h⟩ ?_;rintro⟨b,a,nn120⟩ bc ⟨l,h⟩;obtain⟨p,b0,rfl,h,o⟩:=Aw h;refine AR ?_;refine Ar h ?_ ?_<;>intro ab h
  ·refine Ag h λbd h=>AR ?_;refine Ag h λq h=>A1 t ((a1+a).toNat) (BP q) (An q) ?_;rintro b1 _ rfl ac;refine sH ac (hH.trans l.arg)<|AJ (Er (GQ _))<|AR ?_;refine Ah h λb2 ad h=>Al l (Db _ _ (Ae l) ad) λb3 be ae a5=>BJ 1 Z<|AH h ?_ ?_<;>intro af h
   ·have h:=AX.out h o;exact Bu
   refine Ag h λbf h=>Ag h λbg h=>Ag h λbh h=>Ag h λbi h=>Af ?_;have h:=AX.again h o;refine Ak (_,_,_) Z ⟨ae,h⟩
  have h:=AX.out h o;refine Af ?_;refine Am _ ⟨l,h⟩
 rintro k bj ⟨m,h⟩;refine AR ?_;refine Bl 61 h ?_ ?_<;>intro ag h
 ·refine Af ?_;refine Bl 64 h ?_ ?_<;>intro ah h
  ·refine Af ?_;refine Cm<|Bu
  refine Af ?_;refine Ah h λb4 ai h=>Al m (Db _ _ (Ae m) ai) λb5 bk s a6=>Af ?_;refine Cf 69 h ?_ ?_<;>intro aj h
  ·refine Af ?_;refine Cm<|Bu
  refine Af ?_;refine Bl 72 h ?_ ?_<;>intro ak h
  ·refine Af ?_;refine Ah h λb6 al h=>Al s (Db _ _ (Ae s) al) λb7 bl bm a7=>Af ?_;refine AH h ?_ ?_<;>intro am h
   ·exact Bu
   exact Bu
  refine Af ?_;refine BO<|Bu
 refine Af ?_;refine Bl 72 h ?_ ?_<;>intro an h
 ·refine Af ?_;refine Ah h λb8 ao h=>Al m (Db _ _ (Ae m) ao) λb9 bn bo a8=>Af ?_;refine AH h ?_ ?_<;>intro ap h
  ·exact Bu
  exact Bu
 refine Af ?_;refine BO<|Bu
def MZ(a0:Wl)(a1:Int):Option Int:=
 Ay (0<=a1/\a1<(a0.length:Int)) (Xd (Eb ((a0.getD a1.toNat Qq7).toNat:Int) (48:Int) (57:Int)) (λc=>if c then TI (1)else Xd (Eb ((a0.getD a1.toNat Qq7).toNat:Int) (97:Int) (122:Int)) (λd=>if d then TI (1)else Xd (Eb ((a0.getD a1.toNat Qq7).toNat:Int) (65:Int) (90:Int)) (λa=>if a then TI (1)else Xd (Tw a0 a1) (λb=>TI b)))))
theorem S8{a0:Wl}{a1:Int}{a:Value}(b:As .byte H a a0){r:Int}(h:MZ a0 a1=TI r):
  Pd 121 [a,No a1] w (λv w'=>v=No r):=by
 refine Ai 24 [(0,a),(1,No a1)] func121 Z λhL=>Af ?_;refine Ag h λd h=>A1 b a1.toNat (BP d) (An d) ?_;rintro p1 _ rfl l;refine sH l (hH.trans hL.arg)<|AJ (Er (GQ _))<|AR ?_;refine Ah h λx3 m h=>Al hL (Db _ _ (Ae hL) m) λw4 aa e t=>AK 1 Z<|Cf 13 h ?_ ?_<;>intro o h
 ·refine Af ?_;refine Cm<|Bu
 refine Af ?_;refine Ah h λx8 p h=>Al e (Db _ _ (Ae e) p) λw9 ab f u=>Af ?_;refine Cf 17 h ?_ ?_<;>intro g h
 ·refine Af ?_;refine Cm<|Bu
 refine Af ?_;refine Ah h λac i h=>Al f (Db _ _ (Ae f) i) λad x c q=>Af ?_;refine AH h ?_ ?_<;>intro j h
 ·exact Bu
 refine Af ?_;refine Ah h λae k h=>Al c (AaZ _ _ (Ae c) (b.mono  Ad) k) λaf y z s=>Bu
def JZ(c:Wl)(a:Int)(b:UInt8):Option ((Wl×Int)⊕((Wl×Int)⊕((Wq×Int)⊕(Wq)))):=
 Ay (Go.E.Dx 1 (c.length+([b]).length)) (Ay (AL (a+1)) (TI (Sum.inl ((c++[b]),(a+1)))))
def PJ(a b:Int)(c:Wl):Option ((Wl×Int)⊕((Wq×Int)⊕(Wq))):=
 Ay (AL (a+b)) (TI (Sum.inl (c,(a+b))))
def IT(a0:Wl)(b c:Int):Wl×Int->Option ((Wl×Int)⊕((Wl×Int)⊕((Wq×Int)⊕(Wq)))):=λ⟨d,a⟩=>
 Ay (AL (b+c)) (if a<(b+c)then Ay (0<=a/\a<(a0.length:Int)) (if(65<=((a0.getD a.toNat Qq7).toNat:Int))/\(((a0.getD a.toNat Qq7).toNat:Int)<=90)then(JZ d a) (a0.getD a.toNat Qq7+(32:UInt8))else(JZ d a) (a0.getD a.toNat Qq7))else Sh Sum.inr ((PJ b c) d))
def PK(a0:Wl)(a b:Int)(s:Wl×Int):Option ((Wl×Int)⊕((Wq×Int)⊕(Wq))):=Go.L.run (IT a0 a b) s
def Ka(c:Wq)(b:Int)(d:Wl)(a:Int):Option ((Wq×Int)⊕(Wq)):=
 if b<a then Ay (Go.E.Dx 32 (c.length+([(d,b,a)]).length)) (Ay (AL (a+1)) (TI (Sum.inl ((c++[(d,b,a)]),(a+1)))))else Ay (AL (a+1)) (TI (Sum.inl (c,(a+1))))
def EK(a0:Wl)(d:Wq)(b:Int):Wl×Int->Option ((Wl×Int)⊕((Wq×Int)⊕(Wq))):=λ⟨c,a⟩=>
 if a<(a0.length:Int)then Xd (MZ a0 a) (λe=>if 0<e then Xd (MZ a0 a) (λf=>(PK a0 a f) (c,a))else Sh Sum.inr ((Ka d b) c a))else Sh Sum.inr ((Ka d b) c a)
def Qxa(a0:Wl)(b:Wq)(a:Int)(s:Wl×Int):Option ((Wq×Int)⊕(Wq)):=Go.L.run (EK a0 b a) s
def PL(a:Wq):Option (Wq):=
 TI a
def Dq(a0:Wl):Wq×Int->Option ((Wq×Int)⊕(Wq)):=λ⟨b,a⟩=>
 if a<(a0.length:Int)then(Qxa a0 b a) (([]:Wl),a)else Sh Sum.inr (PL b)
def Ajr(a0:Wl)(s:Wq×Int):Option (Wq):=Go.L.run (Dq a0) s
def QX(a0:Wl):Option (Wq):=
 (Ajr a0) (([]:Wq),0)
theorem LIB{a0:Wl}{z:Value}(az:As .byte H z a0){r:Wq}(h:QX a0=TI r):
  Pd 71 [z] w (λv w'=>∃u0,v=u0/\B2 105 (.pair .st TD) H w w' u0 r):=by
 refine Ai 69 [(0,z)] func71 Z λhL=>?_;obtain⟨ca,ct,cb⟩:=B3 (.pair .st TD) H 105 hL;refine Af ?_;refine AA (Wq×Value×LR) (λ⟨am,aj,ae⟩=>[(3,aj)]) (λ⟨am,aj,ae⟩ wr=>Cd w [.row aj 105 3 (am).length ae] wr λOz=>Ao (.pair .st TD) (gz H w wr Oz) am ae/\PL am=TI r) ?_ ?_
 ·refine A4 ?_;obtain⟨ao,h⟩:=Ax h;refine AF (Wq×Int×Value×LR×Nat) (λ⟨e,d,f,c,n⟩=>[(0,z),(3,f),(4,No d)]) (λ⟨e,d,f,c,n⟩ wr=>Cd w [.row f 105 3 (e).length c] wr λOz=>Ao (.pair .st TD) (gz H w wr Oz) e c/\D6 (Dq a0) n (e,d)=TI r) (λ⟨e,d,f,c,n⟩=>n) (([]:Wq),0,TO,[],ao) Z ⟨ca,cb,h⟩ ?_;rintro⟨e,d,f,c,nn352⟩ cd ⟨a3,a,h⟩;obtain⟨ao,a7,rfl,h,ap⟩:=Aw h;refine AR ?_;refine Ar h ?_ ?_<;>intro be h
  ·obtain⟨bf,ax,bg⟩:=B3 .byte H 5 a3;refine Af ?_;refine A4<|Af ?_;refine AA (Wl×Int×Value×LR) (λ⟨ab,k,ak,af⟩=>[(0,z),(3,f),(4,No d),(5,No k),(6,ak)]) (λ⟨ab,k,ak,af⟩ wr=>Cd w [.row ak 5 1 (ab).length af,.row f 105 3 (e).length c] wr λOz=>Ao .byte (gz H w wr Oz) ab af/\Ao (.pair .st TD) (gz H w wr Oz) e c/\(Ka e d) ab k=TI a7) ?_ ?_
   ·refine A4 ?_;obtain⟨a1,h⟩:=Ax h;have a:=a.mono (Aa ax);refine AF (Wl×Int×Value×LR×Nat) (λ⟨aa,g,x,o,n⟩=>[(0,z),(3,f),(4,No d),(5,No g),(6,x)]) (λ⟨aa,g,x,o,n⟩ wr=>Cd w [.row x 5 1 (aa).length o,.row f 105 3 (e).length c] wr λOz=>Ao .byte (gz H w wr Oz) aa o/\Ao (.pair .st TD) (gz H w wr Oz) e c/\D6 (EK a0 e d) n (aa,g)=TI a7) (λ⟨aa,g,x,o,n⟩=>n) (([]:Wl),d,TO,[],a1) Z ⟨bf,bg,a,h⟩ ?_;rintro⟨aa,g,x,o,nn510⟩ ce ⟨aq,s,a,h⟩;obtain⟨a1,a8,rfl,h,ar⟩:=Aw h;refine AR ?_;refine Bl 19 h ?_ ?_<;>intro bh h
    ·refine Af ?_;refine Ah h λcu bi h=>Al aq (S8 _ _ (Ae aq) (az.mono  Ad) bi) λcv cf au ac=>Af ?_;refine Ar h ?_ ?_<;>intro bj h
     ·refine AR ?_;refine Ah h λah bk h=>Al au (S8 _ _ (Ae au) (az.mono  Ad) bk) λcw cg bl an=>BJ 1 Z<|AA (Wl×Value×LR) (λ⟨ai,ag,ad⟩=>[(0,z),(3,f),(4,No d),(5,No g),(6,ag),(7,No ah)]) (λ⟨ai,ag,ad⟩ wr=>Cd w [.row ag 5 1 (ai).length ad,.row f 105 3 (e).length c] wr λOz=>Ao .byte (gz H w wr Oz) ai ad/\Ao (.pair .st TD) (gz H w wr Oz) e c/\(PJ g ah) ai=TI a8) ?_ ?_
      ·refine Bx 2 Z<|A4 ?_;obtain⟨a2,h⟩:=Ax h;have s:=s.mono (Aa (ac.trans an));have a:=a.mono (Aa (ac.trans an));refine AF (Wl×Int×Value×LR×Nat) (λ⟨q,j,y,p,n⟩=>[(0,z),(3,f),(4,No d),(5,No g),(6,y),(7,No ah),(8,No j)]) (λ⟨q,j,y,p,n⟩ wr=>Cd w [.row y 5 1 (q).length p,.row f 105 3 (e).length c] wr λOz=>Ao .byte (gz H w wr Oz) q p/\Ao (.pair .st TD) (gz H w wr Oz) e c/\D6 (IT a0 g ah) n (q,j)=TI a8) (λ⟨q,j,y,p,n⟩=>n) (aa,g,x,o,a2) Z ⟨bl,s,a,h⟩ ?_;rintro⟨q,j,y,p,nn576⟩ ch ⟨al,t,a,h⟩;obtain⟨a2,b6,rfl,h,a4⟩:=Aw h;refine Ag h λci h=>AR ?_;refine Ar h ?_ ?_<;>intro bm h
       ·refine AR ?_;refine Ag h λa5 h=>A1 az j.toNat (BP a5) (An a5) ?_;rintro cx _ rfl bn;refine sH bn (hH.trans al.arg)<|BJ 1 Z<|AA UInt8 (λu=>[(0,z),(3,f),(4,No d),(5,No g),(6,y),(7,No ah),(8,No j),(9,.int .u8 (u.toNat:Int))]) (λu wr=>Cd w [.row y 5 1 (q).length p,.row f 105 3 (e).length c] wr λOz=>Ao .byte (gz H w wr Oz) q p/\Ao (.pair .st TD) (gz H w wr Oz) e c/\(JZ q j) u=TI b6) ?_ ?_
        ·refine FA 3 Z<|NC 2 2 Z Z Z Z Z Z<|Ap<|Ar h ?_ ?_<;>intro bo h
         ·refine Af ?_;refine AJ (ZK 32 Z Z Z)<|Af ?_;refine Am _ ⟨al,t,a,h⟩
         refine Ca<|Am _ ⟨al,t,a,h⟩
        rintro u cj ⟨bp,t,a,h⟩;refine Af ?_;refine Bi [u] (r:=.byte) (λ_=>Ht _ _) bp (.c1 Z .nil) λcy cz ck bq ay br=>Ag h λbs h=>?_;have t:=t.mono (Aa ay);refine Bf (r:=.byte) 0 q [u] Z LS bq Z t br bs λb7 c0 bt bu a9 bv=>Ag h λcl h=>Af ?_;have h:=AX.again h a4;have a:=a.mono (Aa (ay.trans a9));refine Ak (_,_,_,_,_) Z ⟨bu,bv,a,h⟩
       have h:=AX.out h a4;refine Af ?_;refine Am (_,_,_) ⟨al,t,a,h⟩
      have a:=a.mono (Aa (ac.trans an));rintro⟨ai,ag,ad⟩ cm ⟨bw,ba,a,h⟩;refine Ag h λcn h=>Af ?_;have h:=AX.again h ar;refine Ak (_,_,_,_,_) Z ⟨bw,ba,a,h⟩
     have h:=AX.out h ar;refine Af ?_;have s:=s.mono (Aa ac);have a:=a.mono (Aa ac);refine Am (_,_,_,_) ⟨au,s,a,h⟩
    refine Af ?_;refine BO ?_;have h:=AX.out h ar;refine Af ?_;refine Am (_,_,_,_) ⟨aq,s,a,h⟩
   have a:=a.mono (Aa ax);rintro⟨ab,k,ak,af⟩ co ⟨av,bb,a,h⟩;refine AR ?_;refine Ar h ?_ ?_<;>intro bx h
   ·refine Af ?_;refine AJ (O3 (av.Jv hH (i:=0) Z bb) (Le.refl _))<|AK 2 Z<|AJ (A8 (λ_=>AaO _ Z _ _ _))<|Bi [(ab,d,k)] (r:=(.pair .st TD)) (λ_=>Aci _ _ _ _) av (.c3 ⟨_,_,Z,Z,⟨_,_,Z,Z,Z⟩⟩ .nil) λc2 c4 cp bz bc b0=>Ag h λb1 h=>?_;have a:=a.mono (Aa bc);refine Bf (r:=(.pair .st TD)) 1 e [(ab,d,k)] Z WD bz Z a b0 b1 λb8 c5 b2 b3 cc aw=>Ag h λcq h=>Af ?_;have b4:=b3.dT 0 Z;have h:=AX.again h ap;have aw:=aw.mono (Aa (fz_dT 0 Z));refine Ak (_,_,_,_,_) Z ⟨b4,aw,h⟩
   refine Ag h λcr h=>Af ?_;have b5:=av.dT 0 Z;have h:=AX.again h ap;have a:=a.mono (Aa (fz_dT 0 Z));refine Ak (_,_,_,_,_) Z ⟨b5,a,h⟩
  have h:=AX.out h ap;refine Af ?_;refine Am (_,_,_) ⟨a3,a,h⟩
 rintro⟨am,aj,ae⟩ cs ⟨a6,bd,h⟩;refine Af ?_
 cases h
 refine AD Z ⟨a6.ext,_,Z,(a6.Ev hH (i:=0) Z bd)⟩
def Lm(a0:Wl):Option Z7:=
 if 64<(a0.length:Int)then Xd (GF (3:Int) (-1:Int)) (λd=>TI ((d.1,d.2)))else Ay (a0.length<=9223372036854775807) (Xd (QX a0) (λa=>if(a.length:Int)=1 then Ay (0<=(0:Int)/\(0:Int)<(a.length:Int)) (if(a.getD ((0:Int).toNat) Qq7).1=a0 then TI ((0,0))else Xd (GF (6:Int) (-1:Int)) (λb=>TI ((b.1,b.2))))else Xd (GF (6:Int) (-1:Int)) (λc=>TI ((c.1,c.2)))))
theorem Qx5{a0:Wl}{r:Z7}(h:Lm a0=TI r):
  Pd 118 [Pg a0] w (λv w'=>v=.agg #[No r.1,No r.2]):=by
 refine Ai 24 [(0,(Pg a0))] func118 Z λhL=>A5<|Aq Av.e Z hL λw1 b1 b al _=>AR ?_;refine AJ (Dn Z)<|BJ 1 Z<|Ar h ?_ ?_<;>intro z h
 ·refine A5<|Ah h λx4 aa h=>Al b (Ec _ _ (Ae b) aa) λw5 ar ab am=>Ac 0 Z ab Z λw6 k an=>Af ?_
  cases h
  refine Bz (.cell Z QW Z Av.e (box_pT 0 k Z)) ⟨k.ext,Z⟩
 refine Af ?_;refine Ag h λac h=>YT (H:=H) b ac λv8 w8 au c ao ad=>Ah h λav l h=>A9 c (LIB _ _ (Ae c) ad l) ?_;rintro ae aw ⟨_,rfl,d⟩ m a af;have e:=d.BB hH c m;refine AR ?_;refine Dm 14 h ?_ ?_<;>intro o h
 ·refine Af ?_;refine Cm<|A5<|Ah h λax p h=>Al a (Ec _ _ (Ae a) p) λay ap q ag=>Ac 0 Z q Z λaz f ah=>Af ?_
  cases h
  refine Bz (.cell Z QW Z Av.e (box_pT 0 f Z)) ⟨f.ext,Z⟩
 refine Af ?_;refine Ag h λg h=>A1 e ((0:Int).toNat) (BP g) (An g) ?_;rintro a1 _ ⟨_,_,rfl,rfl,⟨_,_,rfl,rfl,rfl⟩⟩ s;have t:=s.add 0;refine Af ?_;refine sH t (Ae a)<|Af ?_;refine AJ (ND Z Z)<|Af ?_;refine Bt h ?_ ?_<;>intro u h
 ·refine A5<|Ah h λa2 x h=>Al a (Ec _ _ (Ae a) x) λa3 aq y ai=>Ac 0 Z y Z λa4 i aj=>Af ?_
  cases h
  refine Bz (.cell Z QW Z Av.e (box_pT 0 i Z)) ⟨i.ext,Z⟩
 refine Af ?_;refine AJ (A8 (λ_=>Bo _))<|Ac 0 Z a Z λa5 j ak=>Af ?_
 cases h
 refine Bz (.cell Z QW Z Av.e (box_pT 0 j Z)) ⟨j.ext,Z⟩
def Oc(a:Int)(b:Wn):Option ((Wn×Int)⊕((Wn×Int)⊕(Wn))):=
 Ay (AL (a+1)) (TI (Sum.inl (b,(a+1))))
def Ln(c:Wn)(b a:Int)(d:Bool):Option ((Wn×Int)⊕((Wn×Int)⊕(Wn))):=
 if d then Ay (Go.E.Dx 16 (c.length+([(b,a)]).length)) ((Oc a) (c++[(b,a)]))else(Oc a) c
def Kb(a1:List Wl)(f:Wn)(d b:Int)(e:Wq):Bool×Int->Option ((Bool×Int)⊕((Wn×Int)⊕((Wn×Int)⊕(Wn)))):=λ⟨c,a⟩=>
 if a<(a1.length:Int)then(if c then Ay (AL (b+a)) (Ay (0<=(b+a)/\(b+a)<(e.length:Int)) (Ay (0<=a/\a<(a1.length:Int)) (Ay (AL (a+1)) (TI (Sum.inl (decide ((e.getD ((b+a).toNat) Qq7).1=a1.getD a.toNat Qq7),(a+1)))))))else Ay (AL (a+1)) (TI (Sum.inl (false,(a+1)))))else Sh Sum.inr ((Ln f d b) c)
def QY(a1:List Wl)(c:Wn)(a b:Int)(d:Wq)(s:Bool×Int):Option ((Wn×Int)⊕((Wn×Int)⊕(Wn))):=Go.L.run (Kb a1 c a b d) s
def QZ(a:Int)(b:Wn):Option ((Wn×Int)⊕(Wn)):=
 Ay (AL (a+1)) (TI (Sum.inl (b,(a+1))))
def Kc(a1:List Wl)(b:Int)(c:Wq):Wn×Int->Option ((Wn×Int)⊕((Wn×Int)⊕(Wn))):=λ⟨d,a⟩=>
 Ay (AL (a+(a1.length:Int))) (if(a+(a1.length:Int))<=(c.length:Int)then(QY a1 d b a c) (true,0)else Sh Sum.inr ((QZ b) d))
def Ra(a1:List Wl)(a:Int)(b:Wq)(s:Wn×Int):Option ((Wn×Int)⊕(Wn)):=Go.L.run (Kc a1 a b) s
def Rb(a:Wn):Option (Wn):=
 TI a
def Io(a0:List Wl)(a1:List Wl):Wn×Int->Option ((Wn×Int)⊕(Wn)):=λ⟨b,a⟩=>
 if a<(a0.length:Int)then Ay (0<=a/\a<(a0.length:Int)) (Xd (QX (a0.getD a.toNat Qq7)) (λc=>(Ra a1 a c) (b,0)))else Sh Sum.inr (Rb b)
def Aba(a0:List Wl)(a1:List Wl)(s:Wn×Int):Option (Wn):=Go.L.run (Io a0 a1) s
def Oq(a0:List Wl)(a1:List Wl):Option (Wn):=
 (Aba a0 a1) (([]:Wn),0)
theorem Rc{a0 a1:List Wl}{u x:Value}(cb:As (.vec .byte) H u a0)(cc:As .st H x a1){r:Wn}(h:Oq a0 a1=TI r):
  Pd 33 [u,x] w (λv w'=>∃u0,v=u0/\B2 107 TD H w w' u0 r):=by
 refine Ai 60 [(0,u),(1,x)] func33 Z λhL=>?_;obtain⟨cf,cu,cg⟩:=B3 TD H 107 hL;refine Af ?_;refine AA (Wn×Value×LR) (λ⟨ap,ao,af⟩=>[(5,ao)]) (λ⟨ap,ao,af⟩ wr=>Cd w [.row ao 107 2 (ap).length af] wr λOz=>Ao TD (gz H w wr Oz) ap af/\Rb ap=TI r) ?_ ?_
 ·refine Bx 1 Z<|A4 ?_;obtain⟨ay,h⟩:=Ax h;refine AF (Wn×Int×Value×LR×Nat) (λ⟨z,a,y,p,n⟩=>[(0,u),(1,x),(5,y),(6,No a)]) (λ⟨z,a,y,p,n⟩ wr=>Cd w [.row y 107 2 (z).length p] wr λOz=>Ao TD (gz H w wr Oz) z p/\D6 (Io a0 a1) n (z,a)=TI r) (λ⟨z,a,y,p,n⟩=>n) (([]:Wn),0,TO,[],ay) Z ⟨cf,cg,h⟩ ?_;rintro⟨z,a,y,p,nn373⟩ ch ⟨ag,ah,h⟩;obtain⟨ay,bi,rfl,h,a3⟩:=Aw h;refine AR ?_;refine Ar h ?_ ?_<;>intro bo h
  ·refine Af ?_;refine AA (Wn×Value×LR) (λ⟨am,ai,aa⟩=>[(0,u),(1,x),(5,ai),(6,No a)]) (λ⟨am,ai,aa⟩ wr=>Cd w [.row ai 107 2 (am).length aa] wr λOz=>Ao TD (gz H w wr Oz) am aa/\(QZ a) am=TI bi) ?_ ?_
   ·refine AR ?_;refine Ag h λa4 h=>A1 cb a.toNat (BP a4) (An a4) ?_;rintro cv _ ⟨e495v0,rfl,e495h0⟩ bp;refine sH bp (hH.trans ag.arg)<|Ah h λae bq h=>A9 ag (LIB _ _ (Ae ag) (e495h0.mono  Ad) bq) ?_;rintro o cw ⟨_,rfl,be⟩ br bs bj;have bf:=be.BB hH ag br;refine Af ?_;refine A4 ?_;obtain⟨az,h⟩:=Ax h;have ah:=ah.mono (Aa bj);refine AF (Wn×Int×Value×LR×Nat) (λ⟨j,b,k,g,n⟩=>[(0,u),(1,x),(5,k),(6,No a),(7,o),(8,No b)]) (λ⟨j,b,k,g,n⟩ wr=>Cd w [.row k 107 2 (j).length g] wr λOz=>As (.pair .st TD) (gz H w wr Oz) o ae/\Ao TD (gz H w wr Oz) j g/\D6 (Kc a1 a ae) n (j,b)=TI bi) (λ⟨j,b,k,g,n⟩=>n) (z,0,y,p,az) Z ⟨bs,bf,ah,h⟩ ?_;rintro⟨j,b,k,g,nn555⟩ ci ⟨a5,bg,c,h⟩;obtain⟨az,a2,rfl,h,a6⟩:=Aw h;refine Ag h λcj h=>AR ?_
    refine Ar h ?_ ?_<;>intro bt h
    ·refine Af ?_;refine AA (Wn×Value×LR) (λ⟨an,aj,ab⟩=>[(0,u),(1,x),(5,aj),(6,No a),(7,o),(8,No b)]) (λ⟨an,aj,ab⟩ wr=>Cd w [.row aj 107 2 (an).length ab] wr λOz=>As (.pair .st TD) (gz H w wr Oz) o ae/\Ao TD (gz H w wr Oz) an ab/\(Oc b) an=TI a2) ?_ ?_
     ·refine A4<|Bx 1 Z<|AA Bool (λak=>[(0,u),(1,x),(5,k),(6,No a),(7,o),(8,No b),(9,.bool ak)]) (λak wr=>Cd w [.row k 107 2 (j).length g] wr λOz=>As (.pair .st TD) (gz H w wr Oz) o ae/\Ao TD (gz H w wr Oz) j g/\(Ln j a b) ak=TI a2) ?_ ?_
      ·refine Bx 1 Z<|A4 ?_;obtain⟨aq,h⟩:=Ax h;refine AF (Bool×Int×Nat) (λ⟨t,d,n⟩=>[(0,u),(1,x),(5,k),(6,No a),(7,o),(8,No b),(9,.bool t),(10,No d)]) (λ⟨t,d,n⟩ wr=>Cd w [.row k 107 2 (j).length g] wr λOz=>As (.pair .st TD) (gz H w wr Oz) o ae/\Ao TD (gz H w wr Oz) j g/\D6 (Kb a1 j a b ae) n (t,d)=TI a2) (λ⟨t,d,n⟩=>n) (true,0,aq) Z ⟨a5,bg,c,h⟩ ?_;rintro⟨t,d,nn669⟩ ck ⟨ar,f,c,h⟩;obtain⟨aq,cx,rfl,h,au⟩:=Aw h;refine AR ?_;refine Ar h ?_ ?_<;>intro bu h
       ·refine AR ?_;refine P8 (Zt 0 16 (.tail 16)) mixed SF (λcy a7=>?_);have ac:=ar.call a7;have al:=A3 ar a7;refine Br 2 Z<|FX 38 Z (λe=>?_) (λe=>?_)
        ·have h:=Yb e h
         iterate 3 refine Cr Z (Az Z) Z Z Z e Z ?_
         refine Ag h λbv h=>Cr Z (Gq bv) Z Z Z e Z<|Ag h λa8 h=>?_;have f:=f.mono (Aa al);refine GP Z Z Z Z e Z Z WD f ((b+d).toNat) (BP a8) (An a8) Z ?_;rintro cz _ ⟨_,_,rfl,rfl,⟨_,_,rfl,rfl,rfl⟩⟩ bw;refine Cr Z (A7 Z Tk Z E7.e) Z Z Z e Z ?_;have bx:=bw.add 0;refine Cr Z (B5 bx (Ae ac)) Z Z Z e Z ?_
         iterate 2 refine Cr Z (Az Z) Z Z Z e Z ?_
         refine Ag h λa9 h=>GP Z Z Z Z e Z Z Jk cc d.toNat (BP a9) (An a9) Z ?_;rintro c0 _ rfl bz;refine Cr Z (B5 bz (hH.trans ac.arg)) Z Z Z e Z<|Cr Z (I5 Z Z) Z Z Z e Z<|Bh Z (CA e Z) Z<|Br 1 Z<|AT (λc1 ba=>?_);have b0:=ac.call ba;have av:=A3 ac ba;refine Ag h λcl h=>Af ?_;have h:=AX.again h au;have c:=c.mono (Aa (al.trans av));have f:=f.mono (Aa av);refine Ak (_,_,_) Z ⟨b0,f,c,h⟩
        have h:=Yc e h
        iterate 12 refine Mm Z Z Z Z e Z ?_
        refine Bh Z (B4 e Z) Z<|Br 1 Z<|AT (λc3 bb=>?_);have b1:=ac.call bb;have aw:=A3 ac bb;refine Ag h λcm h=>Af ?_;have h:=AX.again h au;have f:=f.mono (Aa (al.trans aw));have c:=c.mono (Aa (al.trans aw));refine Ak (_,_,_) Z ⟨b1,f,c,h⟩
       have h:=AX.out h au;refine Af ?_;refine Am _ ⟨ar,f,c,h⟩
      rintro ak cn ⟨bc,ad,c,h⟩;refine Bx 1 Z<|AH h ?_ ?_<;>intro b2 h
      ·refine Af ?_;refine AJ (A8 (λ_=>Uq _ _ _))<|Bi [(a,b)] (r:=TD) (λ_=>AaR _ _ _) bc (.c2 ⟨_,_,Z,Z,Z⟩ .nil) λc4 c5 co b3 ax b4=>Ag h λb5 h=>?_;have c:=c.mono (Aa ax);refine Bf (r:=TD) 0 j [(a,b)] Z PT b3 Z c b4 b5 λcd c6 b6 b7 bk b8=>Af ?_;have ad:=ad.mono (Aa (ax.trans bk));refine Am (_,_,_) ⟨b7,ad,b8,h⟩
      refine Af ?_;refine Am (_,_,_) ⟨bc,ad,c,h⟩
     rintro⟨an,aj,ab⟩ cp ⟨b9,bh,bl,h⟩;refine Ag h λcq h=>Af ?_;have h:=AX.again h a6;refine Ak (_,_,_,_,_) Z ⟨b9,bh,bl,h⟩
    have h:=AX.out h a6;refine Af ?_;refine Am (_,_,_) ⟨a5,c,h⟩
   rintro⟨am,ai,aa⟩ cr ⟨ca,bm,h⟩;refine Ag h λcs h=>Af ?_;have h:=AX.again h a3;refine Ak (_,_,_,_,_) Z ⟨ca,bm,h⟩
  have h:=AX.out h a3;refine Af ?_;refine Am (_,_,_) ⟨ag,ah,h⟩
 rintro⟨ap,ao,af⟩ ct ⟨bd,bn,h⟩;refine Af ?_
 cases h
 refine AD Z ⟨bd.ext,_,Z,(bd.Ev hH (i:=0) Z bn)⟩
def Re(a:Int)(b:Bool):Option ((Bool×Int)⊕(KP⊕(SB))):=
 Ay (AL (a+1)) (TI (Sum.inl (b,(a+1))))
def Ip(a3 b:Int)(e:Wn)(c:Wn):Bool×Int->Option ((Bool×Int)⊕((Bool×Int)⊕(KP⊕(SB)))):=λ⟨d,a⟩=>
 if a<(c.length:Int)then Ay (0<=b/\b<(e.length:Int)) (Ay (0<=a/\a<(c.length:Int)) (Ay (AL ((e.getD b.toNat Qq7).2 - (c.getD a.toNat Qq7).2)) (if d then Ay (AL (a+1)) (TI (Sum.inl (true,(a+1))))else if((e.getD b.toNat Qq7).2 - (c.getD a.toNat Qq7).2)=0 then Ay (AL (a+1)) (TI (Sum.inl (false,(a+1))))else Ay (AL (-a3)) (Xd (Eb ((e.getD b.toNat Qq7).2 - (c.getD a.toNat Qq7).2) (-a3) a3) (λf=>Ay (AL (a+1)) (TI (Sum.inl (f,(a+1)))))))))else Sh Sum.inr ((Re b) d)
def Ago(a3 a:Int)(b:Wn)(c:Wn)(s:Bool×Int):Option ((Bool×Int)⊕(KP⊕(SB))):=Go.L.run (Ip a3 a b c) s
def Od(a:Int)(b:SB):Option (KP⊕(SB)):=
 Ay (AL (a+1)) (TI (Sum.inl (b,(a+1))))
def Oe(b:SB)(a:Int)(c:Bool):Option (KP⊕(SB)):=
 if c then Ay (Go.E.Dx 8 (b.length+([a]).length)) ((Od a) (b++[a]))else(Od a) b
def Kd(a3:Int)(e:SB)(c:Int)(d:Wn)(f:Wn):Bool×Int->Option ((Bool×Int)⊕(KP⊕(SB))):=λ⟨a,b⟩=>
 if b<(d.length:Int)then(Ago a3 b d f) (a,0)else Sh Sum.inr ((Oe e c) a)
def Vh(a3:Int)(b:SB)(a:Int)(c:Wn)(d:Wn)(s:Bool×Int):Option (KP⊕(SB)):=Go.L.run (Kd a3 b a c d) s
def Rf(a:SB):Option (SB):=
 TI a
def Iq(a0:List Wl)(a1:Wl)(a2:Wl)(a3:Int):SB×Int->Option (KP⊕(SB)):=λ⟨b,a⟩=>
 if a<(a0.length:Int)then Ay (AL (a+1)) (Ay (0<=a/\a<=(a+1)/\(a+1)<=(a0.length:Int)) (Xd (Oq ((a0.drop a.toNat).take ((a+1).toNat - a.toNat)) ([a1])) (λc=>Ay (AL (a+1)) (Ay (0<=a/\a<=(a+1)/\(a+1)<=(a0.length:Int)) (Xd (Oq ((a0.drop a.toNat).take ((a+1).toNat - a.toNat)) ([a2])) (λd=>(Vh a3 b a c d) (false,0)))))))else Sh Sum.inr (Rf b)
def Vi(a0:List Wl)(a1:Wl)(a2:Wl)(a3:Int)(s:KP):Option (SB):=Go.L.run (Iq a0 a1 a2 a3) s
def Tx(a0:List Wl)(a1:Wl)(a2:Wl)(a3:Int):Option (SB):=
 (Vi a0 a1 a2 a3) (([]:SB),0)
theorem Abb{a0:List Wl}{a1 a2:Wl}{a3:Int}{x:Value}(bo:As (.vec .byte) H x a0){r:SB}(h:Tx a0 a1 a2 a3=TI r):
  Pd 34 [x,Pg a1,Pg a2,No a3] w (λv w'=>∃u0,v=u0/\B2 3 (.int .i64) H w w' u0 r):=by
 refine Ai 80 [(0,x),(1,(Pg a1)),(2,(Pg a2)),(3,No a3)] func34 Z λhL=>?_;obtain⟨cx,dj,cy⟩:=B3 (.int .i64) H 3 hL;refine Af ?_;refine AA (SB×Value×LR) (λ⟨al,af,aa⟩=>[(9,af)]) (λ⟨al,af,aa⟩ wr=>Cd w [.row af 3 1 (al).length aa] wr λOz=>Ao (.int .i64) (gz H w wr Oz) al aa/\Rf al=TI r) ?_ ?_
 ·refine Bx 1 Z<|A4 ?_;obtain⟨az,h⟩:=Ax h;refine AF (SB×Int×Value×LR×Nat) (λ⟨d,a,f,c,n⟩=>[(0,x),(1,(Pg a1)),(2,(Pg a2)),(3,No a3),(9,f),(10,No a)]) (λ⟨d,a,f,c,n⟩ wr=>Cd w [.row f 3 1 (d).length c] wr λOz=>Ao (.int .i64) (gz H w wr Oz) d c/\D6 (Iq a0 a1 a2 a3) n (d,a)=TI r) (λ⟨d,a,f,c,n⟩=>n) (([]:SB),0,TO,[],az) Z ⟨cx,cy,h⟩ ?_;rintro⟨d,a,f,c,nn481⟩ c0 ⟨a6,ab,h⟩;obtain⟨az,a4,rfl,h,a7⟩:=Aw h;refine AR ?_;refine Ar h ?_ ?_<;>intro bx h
  ·refine Af ?_;refine AA (SB×Value×LR) (λ⟨ad,ac,y⟩=>[(0,x),(1,(Pg a1)),(2,(Pg a2)),(3,No a3),(9,ac),(10,No a)]) (λ⟨ad,ac,y⟩ wr=>Cd w [.row ac 3 1 (ad).length y] wr λOz=>Ao (.int .i64) (gz H w wr Oz) ad y/\(Od a) ad=TI a4) ?_ ?_
   ·refine Ag h λc2 h=>AR ?_;refine Ag h λbz h=>UF bo bz λdk b0=>AK 1 Z<|Bi [a1] (r:=.st) (λ_=>Kr _ Z _) a6 (.c1 Z .nil) λdl dm c3 aq bp b1=>Ah h λam b2 h=>A9 aq (Rc _ _ (Ae aq) (b0.mono  Ad) b1 b2) ?_;rintro o dn ⟨_,rfl,bh⟩ b3 b4 bq;have ae:=bh.BB hH aq b3;refine Ag h λc4 h=>Af ?_;refine Ag h λb5 h=>UF bo b5 λdp b6=>AK 1 Z<|Bi [a2] (r:=.st) (λ_=>Kr _ Z _) b4 (.c1 Z .nil) λdq dr c5 ar ax b7=>Ah h λan b8 h=>A9 ar (Rc _ _ (Ae ar) (b6.mono  Ad) b7 b8) ?_;rintro p ds ⟨_,rfl,bi⟩ b9 a8 ay;have bj:=bi.BB hH ar b9;have au:=a8.rG H;refine Af ?_
    refine AA Bool (λz=>[(0,x),(1,(Pg a1)),(2,(Pg a2)),(3,No a3),(9,f),(10,No a),(13,.bool z)]) (λz wr=>Cd w [.row f 3 1 (d).length c] wr λOz=>Ao (.int .i64) (gz H w wr Oz) d c/\(Oe d a) z=TI a4) ?_ ?_
    ·refine Bx 1 Z<|A4 ?_;obtain⟨a5,h⟩:=Ax h;have ab:=ab.mono (Aa (bp.trans (bq.trans (ax.trans ay))));have ae:=ae.mono (Aa (ax.trans ay));refine AF (Bool×Int×Nat) (λ⟨j,e,n⟩=>[(0,x),(1,(Pg a1)),(2,(Pg a2)),(3,No a3),(9,f),(10,No a),(11,o),(12,p),(13,.bool j),(14,No e)]) (λ⟨j,e,n⟩ wr=>Cd w [.row f 3 1 (d).length c] wr λOz=>As TD (gz H w wr Oz) o am/\As TD (gz H w wr Oz) p an/\Ao (.int .i64) (gz H w wr Oz) d c/\D6 (Kd a3 d a am an) n (j,e)=TI a4) (λ⟨j,e,n⟩=>n) (false,0,a5) Z ⟨a8,(ae.mono au),(bj.mono au),(ab.mono au),h⟩ ?_;rintro⟨j,e,nn848⟩ c6 ⟨av,bk,bl,he848_r1,h⟩;obtain⟨a5,br,rfl,h,a9⟩:=Aw h;have ag:=av.rG H;refine AR ?_;refine Ar h ?_ ?_<;>intro ca h
     ·refine Af ?_;refine AA Bool (λs=>[(0,x),(1,(Pg a1)),(2,(Pg a2)),(3,No a3),(9,f),(10,No a),(11,o),(12,p),(13,.bool s),(14,No e)]) (λs wr=>Cd w [.row f 3 1 (d).length c] wr λOz=>As TD (gz H w wr Oz) o am/\As TD (gz H w wr Oz) p an/\Ao (.int .i64) (gz H w wr Oz) d c/\(Re e) s=TI br) ?_ ?_
      ·refine A4<|Bx 1 Z<|A4 ?_;obtain⟨ao,h⟩:=Ax h;refine AF (Bool×Int×Nat) (λ⟨k,g,n⟩=>[(0,x),(1,(Pg a1)),(2,(Pg a2)),(3,No a3),(9,f),(10,No a),(11,o),(12,p),(13,.bool k),(14,No e),(15,No g)]) (λ⟨k,g,n⟩ wr=>Cd w [.row f 3 1 (d).length c] wr λOz=>As TD (gz H w wr Oz) o am/\As TD (gz H w wr Oz) p an/\Ao (.int .i64) (gz H w wr Oz) d c/\D6 (Ip a3 e am an) n (k,g)=TI br) (λ⟨k,g,n⟩=>n) (j,0,ao) Z ⟨av,(bk.mono ag),(bl.mono ag),(he848_r1.mono ag),h⟩ ?_;rintro⟨k,g,nn943⟩ c7 ⟨ah,t,u,he943_r1,h⟩;obtain⟨ao,dt,rfl,h,ai⟩:=Aw h;have b:=ah.rG H;refine AR ?_;refine Ar h ?_ ?_<;>intro cb h
       ·refine AR ?_;refine BF (Zt 0 12 (.tail 12)) mixed SF (λdu ba=>?_);have aj:=ah.call ba;have bs:=A3 ah ba;refine Br 2 Z<|Ag h λbb h=>?_;have b:=b.trans (Aa bs);refine Cj Z Z Z PT (t.mono b) e.toNat (BP bb) (An bb) Z ?_;rintro dv _ ⟨_,_,rfl,rfl,rfl⟩ cc;refine Bh Z (A7 Z Z6 Z DW.e) Z ?_;have cd:=cc.add 1;refine Bh Z (B5 cd (Ae aj)) Z<|Br 2 Z<|Ag h λbc h=>Cj Z Z Z PT (u.mono b) g.toNat (BP bc) (An bc) Z ?_;rintro dw _ ⟨_,_,rfl,rfl,rfl⟩ ce;refine Bh Z (A7 Z Z6 Z DW.e) Z ?_;have cf:=ce.add 1;refine Bh Z (B5 cf (Ae aj)) Z<|Ag h λcg h=>Bh Z (Gq cg) Z<|Br 1 Z<|AT (λdx bd=>?_);have ak:=aj.call bd;have ap:=A3 aj bd;refine Af ?_;refine Cf 63 h ?_ ?_<;>intro ch h
        ·refine Ag h λc8 h=>Af ?_;have h:=AX.again h ai;have b:=b.trans (Aa ap);refine Ak (_,_,_) Z ⟨ak,(t.mono b),(u.mono b),(he943_r1.mono b),h⟩
        refine Af ?_;refine Dm 66 h ?_ ?_<;>intro ci h
        ·refine Af ?_;refine Ag h λcj h=>AJ (Ali cj)<|Af ?_;refine Ah h λcu ck h=>Al ak (Db _ _ (Ae ak) ck) λdy c9 cl bt=>Ag h λda h=>Af ?_;have h:=AX.again h ai;have b:=b.trans (Aa (ap.trans bt));refine Ak (_,_,_) Z ⟨cl,(t.mono b),(u.mono b),(he943_r1.mono b),h⟩
        refine Ag h λdb h=>Af ?_;have h:=AX.again h ai;have b:=b.trans (Aa ap);refine Ak (_,_,_) Z ⟨ak,(t.mono b),(u.mono b),(he943_r1.mono b),h⟩
       have h:=AX.out h ai;refine Af ?_;refine Am _ ⟨ah,(t.mono b),(u.mono b),(he943_r1.mono b),h⟩
      rintro s dc ⟨be,bm,bn,he912_r1,h⟩;have aw:=be.rG H;refine Ag h λdd h=>Af ?_;have h:=AX.again h a9;refine Ak (_,_,_) Z ⟨be,(bm.mono aw),(bn.mono aw),(he912_r1.mono aw),h⟩
     have h:=AX.out h a9;refine Af ?_;refine Am _ ⟨av,(he848_r1.mono ag),h⟩
    rintro z de ⟨bf,he783_r1,h⟩;refine Bx 1 Z<|AH h ?_ ?_<;>intro cm h
    ·refine Af ?_;refine Bi [a] (r:=(.int .i64)) (λ_=>Fy _ _) bf (.c1 Z .nil) λdz d0 df cn bu co=>Ag h λcp h=>?_;have he783_r1:=he783_r1.mono (Aa bu);refine Bf (r:=(.int .i64)) 0 d [a] Z VV cn Z he783_r1 co cp λcv d1 cq cr cz cs=>Af ?_;refine Am (_,_,_) ⟨cr,cs,h⟩
    refine Af ?_;refine Am (_,_,_) ⟨bf,he783_r1,h⟩
   rintro⟨ad,ac,y⟩ dg ⟨ct,bv,h⟩;refine Ag h λdh h=>Af ?_;have h:=AX.again h a7;refine Ak (_,_,_,_,_) Z ⟨ct,bv,h⟩
  have h:=AX.out h a7;refine Af ?_;refine Am (_,_,_) ⟨a6,ab,h⟩
 rintro⟨al,af,aa⟩ di ⟨bg,bw,h⟩;refine Af ?_
 cases h
 refine AD Z ⟨bg.ext,_,Z,(bg.Ev hH (i:=0) Z bw)⟩
end
def Qr(x y z:Int):Eb x y z=TI (decide (y<=x/\x<=z)):=Z
def W4(x y:Int):GF x y=TI (x,y):=Z
def Abc{a:Qm}{i:Nat}(k:Nat){z:Int}(hz:z=((i+k:Nat):Int)):((a.getD z.toNat Qq7).toNat:Int)=((bt (a.drop i) k:Nat):Int):=by
 subst hz;rw[Akr,SV]
 rfl
def Ot{a:Qm}(hs:a.length<=1000000000000)(i k:Nat)(n:Nat)(p:Nat)(hp:p<=1000000000)(hk:k<n)(_h4:n<=4)(hlen:i+n<=a.length):
  Im a (i:Int) (n:Int) ((p:Int),(k:Int))=if cont (a.drop i) k then TI (.inl (((p * 64+(bt (a.drop i) k - 128):Nat):Int),((k+1:Nat):Int)))else TI (.inr 0):=by
 unfold Im;have hb:bt (a.drop i) k<256:=Wm _;have hg:=Abc (a:=a) (i:=i) k (z:=(i:Int)+(k:Int)) U;simp only;rw[Xu U,Ab U,Ab ⟨by omega,by omega⟩,hg,Qr,Wo]
 have hc:cont (a.drop i) k=decide ((128:Int)<=((bt (a.drop i) k:Nat):Int)/\((bt (a.drop i) k:Nat):Int)<=191):=by
  unfold cont;rw[U1]
  congr 1
  apply propext
  constructor
  ·rintro⟨_,h2,h3⟩;exact⟨by omega,by omega⟩
  ·rintro⟨h2,h3⟩;exact⟨by omega,by omega,by omega⟩
 rw[hc]
 by_cases h:(128:Int)<=((bt (a.drop i) k:Nat):Int)/\((bt (a.drop i) k:Nat):Int)<=191
 ·rw[Xq h,Pb Y5,Xu Z,Ab U,Ab U,Ab U,Ab U]
  congr 3
  ·omega
 ·rw[UK h,Xu Y5,Pb Y5]
  rfl
def VY{a:Qm}{i:Nat}(n:Nat)(p:Nat):Im a (i:Int) (n:Int) ((p:Int),(n:Int))=(Jz (n:Int) (p:Int)).map Sum.inr:=by
 unfold Im;simp only;rw[Pb U]
def size_eq{a:Qm}(hs:a.length<=1000000000000){i:Nat}(hi:i<a.length):Tw a (i:Int)=TI ((RG (a.drop i):Nat):Int):=by
 have o:bt (a.drop i) 0<256:=Wm _;have hg:=Abc (a:=a) (i:=i) 0 (z:=(i:Int)) U;have k3z:∀s,Gx a (i:Int) 0 s=TI 0:=λs=>by unfold Gx;rw[Xu Z]
 -- the loop for n bytes
 have hc:∀k,cont (a.drop i) k=true->i+k<a.length:=λk h=>by
  have:=(Z4 h).1;rw[U1]at this;omega
 unfold Tw;rw[Ab ⟨by omega,by omega⟩,hg,Qr,Wo];unfold RG
 by_cases hA:194<=bt (a.drop i) 0/\bt (a.drop i) 0<=223
 ·rw[Xq ⟨by omega,by omega⟩,Xu Z,Ab U,Xu hA];unfold Ll J0 Gx;rw[hg,Qr,Wo,UK U,Pb Y5,Qr,Wo,UK U,Pb Y5,Pb Y5,Ab U]
  by_cases h2:i+2<=a.length
  ·rw[Pb U];have e:((bt (a.drop i) 0:Nat):Int) - 192=((bt (a.drop i) 0 - 192:Nat):Int):=by omega
   rw[e];unfold Ob;have s1:=Ot hs i 1 2 (bt (a.drop i) 0 - 192) U Y5 Y5 h2
   by_cases c1:cont (a.drop i) 1=true
   ·rw[Xu c1]at s1 ⊢;refine(AE s1).trans (A2 (m:=TI 2) ((VY 2 _).trans ?_));unfold Jz;rw[Pb Y5,Pb Y5]
    rfl
   ·rw[Pb c1]at s1 ⊢;exact A2 (m:=TI 0) s1
  ·rw[Xu U,Pb (λh=>by have:=hc 1 h;omega)]
   rfl
 rw[UK U,Pb Y5,Pb hA];unfold Ll;rw[hg,Qr,Wo]
 by_cases hB:224<=bt (a.drop i) 0/\bt (a.drop i) 0<=239
 ·rw[Xq ⟨by omega,by omega⟩,Xu Z,Ab U,Xu hB];unfold J0 Gx;rw[hg,Qr,Wo,UK U,Pb Y5,Pb Y5,Ab U]
  by_cases h2:i+3<=a.length
  ·rw[Pb U];have e:((bt (a.drop i) 0:Nat):Int) - 224=((bt (a.drop i) 0 - 224:Nat):Int):=by omega
   rw[e];unfold Ob;have g:bt (a.drop i) 1<256:=Wm _;have j:bt (a.drop i) 2<256:=Wm _;have s1:=Ot hs i 1 3 (bt (a.drop i) 0 - 224) U Y5 Y5 h2;have b:=Ot hs i 2 3 ((bt (a.drop i) 0 - 224) * 64+(bt (a.drop i) 1 - 128)) U Y5 Y5 h2
   by_cases c1:cont (a.drop i) 1=true
   ·rw[Xu c1]at s1;refine(AE s1).trans ?_
    by_cases c2:cont (a.drop i) 2=true
    ·rw[Xu c2]at b;refine(AE b).trans (A2 (m:=TI _) ((VY 3 _).trans (congrArg _ ?_)));have f:((bt (a.drop i) 0 - 224) * 64+(bt (a.drop i) 1 - 128)) * 64+(bt (a.drop i) 2 - 128)=pt3 (a.drop i):=Z;rw[f];unfold Jz;rw[Xu Y5]
     by_cases c:2048<=pt3 (a.drop i)
     ·rw[Pb U,Qr,Wo]
      by_cases l:55296<=pt3 (a.drop i)/\pt3 (a.drop i)<=57343
      ·rw[Xq ⟨by omega,by omega⟩,Xu Z,Pb (λh=>h.2.2.2 l)];rfl
      ·rw[UK U,Pb Y5,Pb Y5,Xu ⟨c1,c2,c,l⟩]
     ·rw[Xu U,Pb (λh=>c h.2.2.1)];rfl
    ·rw[Pb c2]at b;rw[Pb (λh=>c2 h.2.1)];exact A2 (m:=TI 0) b
   ·rw[Pb c1]at s1;rw[Pb (λh=>c1 h.1)];exact A2 (m:=TI 0) s1
  ·rw[Xu U,Pb (λh=>by have:=hc 2 h.2.1;omega)]
   rfl
 rw[UK U,Pb Y5,Pb hB];unfold J0;rw[hg,Qr,Wo]
 by_cases hC:240<=bt (a.drop i) 0/\bt (a.drop i) 0<=244
 ·rw[Xq ⟨by omega,by omega⟩,Xu Z,Ab U,Xu hC];unfold Gx;rw[Pb Y5,Ab U]
  by_cases h2:i+4<=a.length
  ·rw[Pb U];have e:((bt (a.drop i) 0:Nat):Int) - 240=((bt (a.drop i) 0 - 240:Nat):Int):=by omega
   rw[e];unfold Ob;have g:bt (a.drop i) 1<256:=Wm _;have j:bt (a.drop i) 2<256:=Wm _;have p:bt (a.drop i) 3<256:=Wm _;have s1:=Ot hs i 1 4 (bt (a.drop i) 0 - 240) U Y5 Y5 h2;have b:=Ot hs i 2 4 ((bt (a.drop i) 0 - 240) * 64+(bt (a.drop i) 1 - 128)) U Y5 Y5 h2;have d:=Ot hs i 3 4 (((bt (a.drop i) 0 - 240) * 64+(bt (a.drop i) 1 - 128)) * 64+(bt (a.drop i) 2 - 128)) U Y5 Y5 h2
   by_cases c1:cont (a.drop i) 1=true
   ·rw[Xu c1]at s1;refine(AE s1).trans ?_
    by_cases c2:cont (a.drop i) 2=true
    ·rw[Xu c2]at b;refine(AE b).trans ?_
     by_cases c3:cont (a.drop i) 3=true
     ·rw[Xu c3]at d;refine(AE d).trans (A2 (m:=TI _) ((VY 4 _).trans (congrArg _ ?_)));have f:(((bt (a.drop i) 0 - 240) * 64+(bt (a.drop i) 1 - 128)) * 64+(bt (a.drop i) 2 - 128)) * 64+(bt (a.drop i) 3 - 128)=pt4 (a.drop i):=Z;rw[f];unfold Jz;rw[Pb Y5,Xu Y5,Qr,Wo]
      by_cases c:65536<=pt4 (a.drop i)/\pt4 (a.drop i)<=1114111
      ·rw[Xq ⟨by omega,by omega⟩,Pb Y5,Xu ⟨c1,c2,c3,c⟩]
      ·rw[UK U,Xu Y5,Pb (λh=>c h.2.2.2)];rfl
     ·rw[Pb c3]at d;rw[Pb (λh=>c3 h.2.2.1)];exact A2 (m:=TI 0) d
    ·rw[Pb c2]at b;rw[Pb (λh=>c2 h.2.1)];exact A2 (m:=TI 0) b
   ·rw[Pb c1]at s1;rw[Pb (λh=>c1 h.1)];exact A2 (m:=TI 0) s1
  ·rw[Xu U,Pb (λh=>by have:=hc 3 h.2.2.1;omega)]
   rfl
 rw[UK U,Pb Y5,Pb hC,k3z]
 rfl
def AdH{a:Qm}(hs:a.length<=1000000000000){i:Nat}(hi:i<a.length):MZ a (i:Int)=TI ((Ma (a.drop i):Nat):Int):=by
 have hg:=Abc (a:=a) (i:=i) 0 (z:=(i:Int)) U;unfold MZ;rw[Ab ⟨by omega,by omega⟩,hg,Qr,Wo];unfold Ma asc
 by_cases b:48<=bt (a.drop i) 0/\bt (a.drop i) 0<=57
 ·rw[Xq ⟨by omega,by omega⟩,Xu Z,Xu (Xq (.inl b))];rfl
 rw[UK U,Pb Y5,Qr,Wo]
 by_cases h2:97<=bt (a.drop i) 0/\bt (a.drop i) 0<=122
 ·rw[Xq ⟨by omega,by omega⟩,Xu Z,Xu (Xq (.inr (.inl h2)))];rfl
 rw[UK U,Pb Y5,Qr,Wo]
 by_cases h3:65<=bt (a.drop i) 0/\bt (a.drop i) 0<=90
 ·rw[Xq ⟨by omega,by omega⟩,Xu Z,Xu (Xq (.inr (.inr h3)))];rfl
 rw[UK U,Pb Y5,size_eq hs hi,Wo,Pb (λh=>by have:=Z4 h;omega)]
end Go.Proofs.YtgaljodghpgdmaaGreatDoor
namespace Go.Proofs.YtgaljodghpgdmaaGreatDoor
open Go Go.L
def AhN{a:Qm}{e j:Nat}(h:e+j<a.length):((a.drop e).take (j+1)).map Hk=((a.drop e).take j).map Hk++[Hk (a.getD (e+j) Qq7)]:=by
 have b:(a.drop e)[j]? = TI (a.getD (e+j) Qq7):=by
  rw[Vk,Sb,Pa h]
  rfl
 rw[Vf,b,K4]
 rfl
def AhO{a:Qm}(hs:a.length<=1000000000000){e n:Nat}(h:e+n<=a.length)(low:Qm)(hl:low.length<=e):
  PK a (e:Int) (n:Int) (low,(e:Int))=TI (.inl (low++((a.drop e).take n).map Hk,((e+n:Nat):Int))):=by
 unfold PK
 have key:=BM (b:=IT a (e:Int) (n:Int)) (m:=TI (.inl (low++((a.drop e).take n).map Hk,((e+n:Nat):Int)))) (λj=>(low++((a.drop e).take j).map Hk,((e+j:Nat):Int))) n (λj hj=>by
  unfold IT;simp only;rw[Ab U,Xu U,Ab ⟨by omega,by omega⟩,SV]
  have hlen:(low++((a.drop e).take j).map Hk).length+[Hk (a.getD (e+j) Qq7)].length<=2000000000002:=by
   rw[T6,Vx,Y4,U1,T9];omega
  have hk:JZ (low++((a.drop e).take j).map Hk) ((e+j:Nat):Int) (Hk (a.getD (e+j) Qq7))=TI (.inl (low++((a.drop e).take (j+1)).map Hk,((e+(j+1):Nat):Int))):=by
   unfold JZ;rw[Ab U,Ab U,AhN U,YW]
   congr 3
  rw[<- hk];unfold Hk
  split
  ·rfl
  ·rfl) (by
  unfold IT PJ;simp only;rw[Ab U,Pb U,Ab U]
  congr 3) 0 (hi:=(by omega))
 simp only[List.take_zero,List.map_nil,R0,Pf]at key;exact key
def Abd{a:Qm}{at':Nat}(h:a.length<=at')(L:List W):run (Dq a) (L,(at':Int))=TI L:=by
 refine A2 (m:=TI L) ?_;unfold Dq PL;simp only;rw[Pb U]
def AhP{a:Qm}(hs:a.length<=1000000000000)(L:List W){fr at':Nat}(hL:L.length<=at')(ha:at'<=a.length)(cur:Qm)(hfr:fr<=at')(hc:cur=[]↔fr=at'):
  Ka L (fr:Int) cur (at':Int)=TI (.inl (L++fin cur fr at',((at'+1:Nat):Int))):=by
 unfold Ka fin
 by_cases h:fr=at'
 ·rw[Pb U,Ab U,Xu (hc.2 h),R0]
  congr 3
 ·rw[Xu U,Ab (by rw[T9];constructor <;> omega),Ab U,Pb (λe=>h (hc.1 e))]
  congr 3
theorem Aku{a:Qm}(hs:a.length<=1000000000000):∀(f at':Nat) (L:List W),a.length<=at'+f->L.length<=at'->at'<=a.length+1->
  run (Dq a) (L,(at':Int))=TI (L++WC a f at' [] at')/\
  ∀
   (cur:Qm) (fr:Nat),at'<=a.length->fr<=at'->cur.length<=at'->(cur=[]↔fr=at')->∃s,run (EK a L (fr:Int)) (cur,(at':Int))=TI (.inl s)/\
   run (Dq a) s=TI (L++WC a f at' cur fr):=by
 have E:∀(f at':Nat) (L:List W),a.length<=at'->L.length<=at'->∀(cur:Qm) (fr:Nat),at'<=a.length->fr<=at'->(cur=[]↔fr=at')->∃s,run (EK a L (fr:Int)) (cur,(at':Int))=TI (.inl s)/\
   run (Dq a) s=TI (L++WC a f at' cur fr):=by
  intro f at' L h hL cur fr hle hfr hc;refine⟨(L++fin cur fr at',((at'+1:Nat):Int)),?_,?_⟩
  ·refine A2 (m:=TI (Sum.inl (L++fin cur fr at',((at'+1:Nat):Int)):WS)) ?_;unfold EK;simp only;rw[Pb U,AhP hs L hL hle cur hfr hc]
  ·rw[Abd U,Tv h]
 intro f
 induction f with
 | zero=>
  intro at' L hf hL ha
  constructor
  ·rw[Abd U,Tv U];unfold fin;rw[Xu Z,R0]
  ·intro cur fr hle hfr _ hc;exact E 0 at' L U hL cur fr hle hfr hc
 | succ f ih=>
  intro at' L hf hL ha
  have B:∀(cur:Qm) (fr:Nat),at'<=a.length->fr<=at'->cur.length<=at'->(cur=[]↔fr=at')->∃s,run (EK a L (fr:Int)) (cur,(at':Int))=TI (.inl s)/\
   run (Dq a) s=TI (L++WC a (f+1) at' cur fr):=by
   intro cur fr hle hfr hcl hc
   by_cases h:at'<a.length
   ·have hroom:=Qq h;have hlow:=XB h;have hl:=AdH hs h;unfold WC;rw[Xu h]
    by_cases c:Ma (a.drop at')=0
    ·rw[Xu c];refine⟨(L++fin cur fr at',((at'+1:Nat):Int)),?_,?_⟩
     ·refine A2 (m:=TI (Sum.inl (L++fin cur fr at',((at'+1:Nat):Int)):WS)) ?_;unfold EK;simp only;rw[Xu U,hl,Wo,Pb U,AhP hs L hL hle cur hfr hc]
     ·have b:=(ih (at'+1) (L++fin cur fr at') U (by rw[T6];have:=AaY cur fr at';omega) U).1;rw[b,YW]
    ·rw[Pb c];have hne:((a.drop at').take (Ma (a.drop at'))).map Hk≠[]:=λe=>by rw[e,RZ]at hlow;omega
     obtain⟨s,b,h2⟩:=(ih (at'+Ma (a.drop at')) L U U U).2 (cur++((a.drop at').take (Ma (a.drop at'))).map Hk) fr hroom U (by rw[T6,hlow];omega) ⟨λe=>absurd (List.append_eq_nil_iff.1 e).2 hne,λe=>by omega⟩;refine⟨s,?_,h2⟩;rw[<- b];refine AE ?_;unfold EK;simp only;rw[Xu U,hl,Wo,Xu U,Wo,AhO hs hroom cur hcl]
   ·exact E (f+1) at' L U hL cur fr hle hfr hc
  refine⟨?_,B⟩
  by_cases h:at'<a.length
  ·obtain⟨s,b,h2⟩:=B [] at' U U Rg ⟨λ_=>Z,λ_=>Z⟩
   have hb:Dq a (L,(at':Int))=TI (.inl s):=by
    unfold Dq;simp only;rw[Xu U];exact b
   rw[AE hb];exact h2
  ·rw[Abd U,Tv U];unfold fin;rw[Xu Z,R0]
def Aaf{a:Qm}(hs:a.length<=1000000000000):QX a=TI (Tu a):=by
 have:=(Aku hs (a.length+1) 0 [] U Rg U).1;rw[Qx]at this;exact this
def wf(a:Qm):Int×Int:=if 64<a.length then(3,-1)else if(Tu a).map TJ=[a]then(0,0)else(6,-1)
def OG(a:Qm):Ho a=TI (wf a):=by
 unfold Ho wf
 by_cases h:64<a.length
 ·rw[Xu U,Xu h];rfl
 ·rw[Pb U,Pb h,AfW U,Wo]
  by_cases b:(Tu a).map TJ=[a]
  ·rw[Xq b,Pb Y5,Xu b]
  ·rw[UK b,Xu Y5,Pb b];rfl
theorem Abe(a:Qm):Lm a=TI (wf a):=by
 unfold Lm wf
 by_cases h:64<a.length
 ·rw[Xu U,Xu h];rfl
 ·rw[Pb U,Pb h,Ab U,Aaf U,Wo];generalize Tu a=l
  match l with
  | []=>rw[Pb Rg,Pb Rg];rfl
  | [x]=>
   rw[Xu (show(([x].length:Nat):Int)=1 from Z),Ab Rg]
   show(if x.1=a then _ else _)=_
   by_cases b:x.1=a
   ·rw[Xu b,Xu (by simp[b])]
   ·rw[Pb b,Pb (by simp[b])];rfl
  | x::y::z=>rw[Pb U,Pb Rg];rfl
theorem Us{a:Qm}:∀(f at':Nat) (cur:Qm) (fr:Nat),at'<=a.length->(WC a f at' cur fr).length+at'<=a.length+1
 | 0,at',cur,fr,h=>by unfold WC;have:=AaY cur fr at';omega
 | f+1,at',cur,fr,h=>by
  unfold WC;have:=AaY cur fr at'
  split
  ·rename_i b
   split
   ·rw[T6];have:=Us (a:=a) f (at'+1) [] (at'+1) U;omega
   ·have:=Us (a:=a) f (at'+Ma (a.drop at')) (cur++((a.drop at').take (Ma (a.drop at'))).map Hk) fr (Qq b);omega
  ·omega
def XC(a:Qm):(Tu a).length<=a.length+1:=Us (a:=a) (a.length+1) 0 [] 0 (Tg _)
def AhQ{a:Qm}(hs:a.length<=2048):KH a=TI (Tu a,(0,0)):=by
 unfold KH;rw[Pb U,Ajp U]
 rfl
def AdI{a:Qm}(hs:2048<a.length):KH a=TI ([],(3,-1)):=by
 unfold KH;rw[Xu U]
 rfl
open Go.E Go.RowKit Go.Shelf Go.Maps Go.Sort Go.WideElems Go.MapKept
abbrev rpH:Rp Zv:=.pair (.int .i64) (.int .i64)
abbrev Anr(H:PH)(v:Value)(l:List (Qm×List Zv)):Prop:=Zw encS (.vec rpH) H v l
def LY(H:PH)(v:Value)(l:List (Qm×List Zv)):Prop:=∃b u,v=.func (.func 135) #[] #[.pointer (TI ⟨b,0,none⟩)]/\H b=TI (.cells #[u] 100 (0,0))/\Anr H u l
def LY.mono{H H':PH}{v:Value}{l:List (Qm×List Zv)}(h:LY H v l)(hs:Le H H'):LY H' v l:=by
 obtain⟨b,u,a,h2,h3⟩:=h;exact⟨b,u,a,hs _ _ h2,h3.mono hs⟩
section
variable(w:World)(H:PH)(hH:Le H (hp w)) include hH
theorem Akv{v:Value}{l:List (Qm×List Zv)}(hm:Anr H v l):Ok Tryz.prog 84 [v] w (λv' w'=>Ext w w'/\LY (un H (nw w w')) v' l):=by
 obtain⟨b,vs,rfl,h⟩:=id hm;have hc:CallsIn Fence.wide 5 Tryz.prog 84 #[.map (TI b)] w λe w'=>e=.returned (.func (.func 135) #[] #[.pointer (TI ⟨w.heap.size,0,none⟩)])/\w'=w.alloc (.cells #[.map (TI b)] 100):=AnyZ.keys_in Tryz.Alx Fence.wide 5 trivial Z (TI b) w;refine⟨⟨Tryz.f84,_,Tryz.func84,Z,Z⟩,(callsIn_wide.1 hc).mono λe w' he=>?_⟩;obtain⟨rfl,rfl⟩:=he;refine⟨_,Z,C1 w _,w.heap.size,.map (TI b),Z,?_,hm.mono (Mn hH)⟩;refine Gr _ _ ?_;unfold nw;rw[Xu (KN _)];exact World.alloc_heap_new w _
end
theorem Tq{κ:Type}{enc:κ->Value}:∀(l:List κ) (vs:LR) (i:Nat),l.length=vs.length->(mE enc i l vs).map (·.born)=List.range' i l.length
 | [],[],_,_=>rfl
 | a::l,u::vs,i,h=>by
  simp only[mE,Yu,PF,List.range'_succ];rw[Tq l vs (i+1) (by simpa using h)]
theorem Abf{κ:Type}{enc:κ->Value}:∀(l:List κ) (vs:LR) (i:Nat),l.length=vs.length->(mE enc i l vs).map (·.key)=l.map enc
 | [],[],_,_=>rfl
 | a::l,u::vs,i,h=>by
  simp only[mE,Yu];rw[Abf l vs (i+1) (by simpa using h)]
def KJ:Value->Option (DataW Unit×List MemPlace):=λ_=>TI (.nil,[])
def Ac7{P:Program}{k:TypeId}(hk:P.underlying k=TI .string){s:Qm}(h:s.length<=maxLen):keyOf P k (encS s)=TI (.string s):=by
 have:(ByteArray.mk s.toArray).size<=maxLen:=h;simp[keyOf,hk,mapKey,encS,this]
theorem Al1{P:Program}{k:TypeId}(hk:P.underlying k=TI .string):∀(l:Sa) (vs:LR) (i:Nat),l.length=vs.length->(∀x∈l,x.length<=maxLen)->
  (mE encS i l vs).map (rg P k KJ)=l.map λs=>(Lit.string s,(DataW.nil:DataW Unit))
 | [],[],_,_,_=>rfl
 | a::l,u::vs,i,h,hb=>by
  simp only[mE,Yu];rw[Al1 hk l vs (i+1) (by simpa using h) (λx hx=>hb x (.tail _ hx))]
  congr 1
  simp[WideElems.rg,WideElems.rd,Ac7 hk (hb a (.head _)),KJ]
def XD{β:Type}(l:List (Qm×β)):Prop:=(l.map TJ).Nodup/\(∀x∈l.map TJ,x.length<=maxLen)/\l.length * 16<=140737488355328
noncomputable instance {β:Type} (l:List (Qm×β)):Decidable (XD l):=by unfold XD;infer_instance
noncomputable def Ut{β:Type}(l:List (Qm×β)):Option Sa:=Go.L.Ay (XD l) (TI (Go.L.ZH leB (l.map TJ)))
def Ans(m:Nat):AnyZ.SortsIn Tryz.prog Tryz.W8 Fence.wide m:=
 ⟨λblk off cap ss W hH hblk hsz=>callsIn_wide.2 (Any.slices_Sort_string Tryz.Alv blk off cap ss W hH hblk hsz),
  λp cap W=>callsIn_wide.2 (Any.slices_Sort_string_none Tryz.Alv p cap W)⟩
theorem Aag(G:PH):∀l:Sa,Ao Rp.st G l (l.map Go.Proofs.encStr)
 | []=>.nil
 | _::l=>.cons (c:=[_]) Z (Aag G l)
section
variable(w:World)(H:PH)(hH:Le H (hp w)) include hH
theorem AfX{v:Value}{l:List (Qm×List Zv)}(hi:LY H v l){r:Sa}(h:Ut l=TI r):
  Ok Tryz.prog 83 [v] w (λv' w'=>Ext w w'/\∃f,v'=f/\B2 9 .st H w w' f r):=by
 obtain⟨⟨hnd,hlen,hby⟩,h⟩:=Go.L.Fp h;rw[Go.L.Ss]at h;obtain rfl:=Option.some.inj h;obtain⟨bx,u,rfl,hbx,b,vs,rfl,hb,hl,_⟩:=hi;have hbx':w.heap[bx]? = _:=hH _ _ hbx;have hb':w.heap[b]? = _:=hH _ _ hb;have hlk:(l.map TJ).length=vs.length:=by rw[Vx];exact hl
 have hml:(mE encS 0 (l.map TJ) vs).length=l.length:=by rw[VL _ _ _ hlk,Vx]
 have hrg:=Al1 (P:=Tryz.prog) Tryz.underlying9 (l.map TJ) vs 0 hlk hlen
 have hown:w.ownsMap Tryz.prog 9 KJ b l.length (.map (((mE encS 0 (l.map TJ) vs).map (rg Tryz.prog 9 KJ)).foldr DataW.insert [])):=by
  refine⟨_,_,hb',⟨?_,⟨?_,?_,?_⟩,?_⟩,?_,Z⟩
  ·rw[N6,hml];unfold maxLen;omega
  ·intro x hx;have c:x.born∈(mE encS 0 (l.map TJ) vs).map (·.born):=Rz (by simpa using hx);rw[Tq _ _ _ hlk,List.mem_range'_1,Vx]at c;omega
  ·rw[TF,Tq _ _ _ hlk];exact List.nodup_range'
  ·rw[TF,Abf _ _ _ hlk];exact PO.2 (hnd.imp λ{a b} hab he=>hab (by simpa[encS]using he))
  ·intro x hx;have hx':x∈mE encS 0 (l.map TJ) vs:=by simpa using hx
   have c:x.key∈(mE encS 0 (l.map TJ) vs).map (·.key):=Rz hx';rw[Abf _ _ _ hlk]at c;obtain⟨s,hs,he⟩:=Rr.1 c;exact⟨(.string s,.nil),by simp[WideElems.rd,<- he,Ac7 Tryz.underlying9 (hlen s hs),KJ]⟩
  ·rw[N6,hml];exact KN _
 rw[hrg]at hown
 have hq:∀ks:Sa,(strKeys (.map ((ks.map λs=>(Lit.string s,(DataW.nil:DataW Unit))).foldr DataW.insert []))).Perm ks:=λks=>by
  have c:=(WideShapes.sorted_perm (ks.map λs=>(Lit.string s,(DataW.nil:DataW Unit)))).map (λp=>strOf p.1);rw[Xc]at c;have h2:((λp:Lit×DataW Unit=>strOf p.1)∘λs=>(Lit.string s,(DataW.nil:DataW Unit)))=id:=by funext s;rfl
  rw[h2,List.map_id]at c;exact c
 have hperm:=hq (l.map TJ)
 have hsz:Go.Maps.size (.map (((l.map TJ).map λs=>(Lit.string s,(DataW.nil:DataW Unit))).foldr DataW.insert []))=l.length:=by
  have c:=(WideShapes.sorted_perm ((l.map TJ).map λs=>(Lit.string s,(DataW.nil:DataW Unit)))).length_eq;rw[Vx,Vx]at c;exact c
 have hseq:SeqGives Fence.wide 2 Tryz.prog 135 #[.pointer (TI ⟨bx,0,none⟩)] Go.Proofs.encStr (λss=>ss.Perm (strKeys (.map (((l.map TJ).map λs=>(Lit.string s,(DataW.nil:DataW Unit))).foldr DataW.insert [])))) (Go.Maps.size (.map (((l.map TJ).map λs=>(Lit.string s,(DataW.nil:DataW Unit))).foldr DataW.insert []))) w:=
  AnyZ.keys_gives (ρ:=Tryz.ZY) {Tryz.Alx with} Fence.wide _ trivial Z U bx b l.length _ _ (lt_of_heap hbx') (by simp[World.cell?,hbx']) hown
 have cS:=AnyZ.sorted_in Tryz.Akc Fence.wide 5 trivial trivial trivial trivial Z U (Ans _) (enters_of Tryz.func134 SF Z) 135 #[.pointer (TI ⟨bx,0,none⟩)] trivial (enters_of Tryz.func135 SF Z) _ _ (by rw[hsz];unfold maxLen;omega) (by rw[hsz];exact hby) _ hseq
 change CallsIn _ _ Tryz.prog 83 _ _ _ at cS
 refine⟨⟨Tryz.f83,_,Tryz.func83,Z,Z⟩,(callsIn_wide.1 cS).mono λe w' he=>?_⟩;obtain⟨v',ss,rfl,hS,hrow,_,hbel⟩:=he;refine⟨_,Z,Ext.off hbel,v',Z,_,?_,Aag _ _⟩;have d:ss.mergeSort leB=(l.map TJ).mergeSort leB:=mergeSort_of_perm (hS.trans hperm);have g:ss.length=((l.map TJ).mergeSort leB).length:=by rw[<- d];simp
 rw[g]at hrow;rw[<- d];rw[<- d]at hrow;exact hrow
end
end Go.Proofs.YtgaljodghpgdmaaGreatDoor
end
