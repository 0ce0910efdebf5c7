/- Texts of a claim, merged. -/
import Derived.Test.YtopocbcekabkoaaGreatDoorLa6
open Option renaming bind_some->Qzq,bind->Qq9,map->Qzx,bind_assoc->QkK
open List renaming getD_eq_getElem?_getD->Qzj,getElem?_eq_getElem->Qzy,length_cons->Qzc,replicate->Qzv,length_map->Qza,length_append->Qzd,range->Qzb,mem_cons_of_mem->Qz1,mem_cons_self->Qz2,mem_singleton->QzD,getElem?_eq_some_iff->Qz6,drop_eq_nil_of_le->Qxz,mem_cons->Qze,append_nil->QzZ,mem_append->QzK,length_nil->QzB,length_take->QzC,getElem_mem->Qz3,length_singleton->Qxv,map_cons->QzA,take_of_length_le->Qxb,mem_range->QzE,getElem?_map->Qxq,length_drop->Qz4,getElem?_eq_none->QxJ,pairwise_cons->Qxx,mem_map->Qz0,length_range->QxQ,getElem?_drop->QxZ,length_filter_le->Qx0,flatMap_cons->QxX,map_append->Qxc,mem_filter->QxD,take_length->Qx3,range_succ->QxC,nil_append->Qxe,take_add_one->Qx7,append_assoc->QxB,drop_eq_getElem_cons->Qku,cons_append->Qx1,length->QxK,getElem?_cons_zero->QkJ,drop_zero->Qx8,countP_cons->Qka,ext_getElem?->Qky,mergeSort_perm->QkZ,length_pos_iff->Qkv,drop_drop->Qkc,not_mem_nil->Qkd,exists_cons_of_ne_nil->Qjj,map_congr_left->QkQ,getElem?_range->QkD,pairwise_singleton->QkC,countP_append->Qk2,mem_iff_getElem?->QjX,pairwise_map->QkX,pairwise_append->Qjw,countP_eq_zero->Qk9,getElem?_append_left->Qk4,pairwise_mergeSort->Qjz,range'->Qkq,countP_congr->Qjk,map_map->Qkk,countP_le_length->QjQ,drop_length->Qjx,length_set->Qk6,map_nil->Qk1,pairwise_iff_getElem->QjA,getElem?_take_of_lt->QjB,getElem?_set->QjZ
open Int renaming toNat_natCast->Qzk,reduceEq->Qx9
open Prod renaming fst->Qzz,snd->QzX,ext->Qxw
open Nat renaming le_refl->Qzu,zero_add->QzJ,zero_le->Qz5,le_trans->Qxy,add_sub_cancel->Qkx,lt_or_ge->Qxa,add_zero->Qxf,mul_le_mul_right->QkA,add_mul->Qkf
open Bool renaming and_eq_true->QzQ,eq_iff_iff->Qz7,false_eq_true->Qxk,or_eq_true->Qxj,true_and->Qkw,false_or->Qk7
open UInt8 renaming lt_iff_toNat_lt->Qx2,ofNat->Qz8,toNat_lt->Qkb,ofNat_toNat->Qje
open ByteArray renaming size->Qx6
set_option linter.unusedVariables false
set_option linter.unusedSimpArgs false
noncomputable section
namespace Go.L
open Go
theorem Xh(x y:UInt8)(l m:Qq4):Lib.compareBytes (x::l) (y::m)<0↔x.toNat<y.toNat\/x.toNat=y.toNat/\Lib.compareBytes l m<0:=by
 show(if x<y then(-1:Int)else if y<x then 1 else Lib.compareBytes l m)<0↔_
 by_cases a:x<y
 ·rw[if_pos a];have:=Qx2.1 a;exact⟨fun _=>.inl this,fun _=>by decide⟩
 ·rw[if_neg a];have h1' : ¬x.toNat<y.toNat:=fun h=>a (Qx2.2 h)
  by_cases h2:y<x
  ·rw[if_pos h2];have:=Qx2.1 h2;exact⟨fun h=>absurd h Qqc,fun h=>by omega⟩
  ·rw[if_neg h2];have h2' : ¬y.toNat<x.toNat:=fun h=>h2 (Qx2.2 h);exact⟨fun h=>.inr ⟨by omega,h⟩,fun h=>by rcases h with h | h;exact absurd h h1';exact h.2⟩
def lt(a:Qq4)(x y:Nat):Bool:=decide (Lib.compareBytes (a.drop x) (a.drop y)<0)
theorem Zx(a:Qq4)(x:Nat):lt a x x=false:=by
 unfold lt;rw[WN];decide
theorem AfR{a:Qq4}{x y:Nat}(h:lt a x y=true):lt a y x=false:=by
 unfold lt at *;have:=of_decide_eq_true h;have:=MM (a.drop x) (a.drop y);exact decide_eq_false U
def op(a:Qq4):List Nat:=a.length::(CV a).map Int.toNat
theorem Eh(a:Qq4):(op a).length=a.length+1:=by simp[op,M5]
theorem Ug(a:Qq4):(op a).Perm (Qzb (a.length+1)):=by
 have h:=(MV a).map Int.toNat
 have e:(iota a.length).map Int.toNat=Qzb a.length:=by
  unfold iota;rw[Qkk]
  conv=>rhs;rw[<- List.map_id (Qzb a.length)]
  rfl
 rw[e]at h;unfold op;rw[QxC];exact(h.cons a.length).trans (List.perm_append_comm (l₁:=[a.length]))
theorem UJ(a:Qq4):(op a).Pairwise fun x y=>lt a x y=true:=by
 unfold op;refine Qxx.2 ⟨fun y hy=>?_,?_⟩
 ·obtain⟨z,hz,rfl⟩:=Qz0.1 hy;have hz:=(Xf a).1 hz;unfold lt;rw[Qjx]
  cases hd:a.drop z.toNat with
  | nil=>have:=congrArg QxK hd;rw[Qz4]at this;simp at this;omega
  | cons b l=>rfl
 ·rw[QkX];exact(SN a).imp fun h=>decide_eq_true h
theorem Xi{α:Type}(f:α->α->Bool)(irr:∀x,f x x=false)(asy:∀x y,f x y=true->f y x=false):∀(l:List α),l.Pairwise (fun x y=>f x y=true)->∀r (h:r<l.length),l.countP (fun x=>f x l[r])=r
 | x::l,hp,0,_=>by
  have hx:=(Qxx.1 hp).1;simp only[List.getElem_cons_zero,Qka,irr];rw[Qk9.2 (fun y hy=>by rw[asy _ _ (hx y hy)];decide)]
  rfl
 | x::l,hp,r+1,h=>by
  have h':r<l.length:=by simpa using h
  have hx:=(Qxx.1 hp).1;have ih:=Xi f irr asy l (Qxx.1 hp).2 r h';simp only[List.getElem_cons_succ,Qka,ih,hx l[r] (Qz3 h')]
  rfl
theorem AhY(a:Qq4){r:Nat}(h:r<(op a).length):(op a).countP (fun x=>lt a x (op a)[r])=r:=Xi (lt a) (Zx a) (fun _ _=>AfR) _ (UJ a) r h
theorem Yw(a:Qq4){r:Nat}(h:r<(op a).length):(op a)[r]<=a.length:=by
 have:=(Ug a).mem_iff.1 (Qz3 h);have:=QzE.1 this;omega
theorem Adh{a:Qq4}{p:Nat}(h:p<=a.length):∃r,∃hr:r<(op a).length,(op a)[r]=p:=by
 have hm:p∈op a:=(Ug a).mem_iff.2 (QzE.2 U);obtain⟨r,hr,e⟩:=List.getElem_of_mem hm;exact⟨r,hr,e⟩
theorem AfS(a:Qq4){k r:Nat}(hk:k<(op a).length)(hr:r<(op a).length):lt a (op a)[k] (op a)[r]=true↔k<r:=by
 have hp:=QjA.1 (UJ a)
 rcases Nat.lt_trichotomy k r with h | h | h
 ·exact⟨fun _=>h,fun _=>hp k r hk hr h⟩
 ·subst h;rw[Zx];exact⟨fun h=>(by cases h),fun h=>by omega⟩
 ·rw[AfR (hp r k hr hk h)];exact⟨fun h=>(by cases h),fun h=>by omega⟩
theorem AfT{a:Qq4}{k r:Nat}(hk:k<(op a).length)(hr:r<(op a).length)(h:(op a)[k]=(op a)[r]):k=r:=by
 have b:=AfS a hk hr;have h2:=AfS a hr hk;rw[h,Zx]at b;rw[h,Zx]at h2;simp only[Qxk,false_iff]at b h2;omega
def Hi(a:Qq4)(q:Nat):Int:=if q=0 then -1 else((a.getD (q - 1) Qq2).toNat:Int)
def sym(a:Qq4):Qq5:=(op a).map (Hi a)
theorem DV(a:Qq4):(sym a).length=a.length+1:=by rw[sym,Qza,Eh]
theorem M6(a:Qq4){r:Nat}(h:r<(op a).length):(sym a).getD r Qq2=Hi a (op a)[r]:=by
 unfold sym;rw[Qzj,Qxq,Qzy h];rfl
theorem NI(a:Qq4)(q:Nat):0<=Hi a q↔1<=q:=by unfold Hi;split <;> omega
theorem AfU(a:Qq4)(q:Nat):Hi a q<256:=by
 unfold Hi;split
 ·omega
 ·have:=(a.getD (q - 1) Qq2).toNat_lt;omega
theorem KR{a:Qq4}{q:Nat}(b:1<=q)(h:q<=a.length):a.drop (q - 1)=a.getD (q - 1) Qq2::a.drop q:=by
 rw[Qku (by omega:q - 1<a.length),Qzj,Qzy (by omega:q - 1<a.length),show q - 1+1=q by omega];rfl
def AaE(s:Qq5)(r:Nat):Nat:=1+(Qzb s.length).countP fun k=>decide (0<=s.getD k Qq2/\(s.getD k Qq2<s.getD r Qq2\/s.getD k Qq2=s.getD r Qq2/\k<r))
def RV(s:Qq5):Qq5:=(Qzb s.length).map fun r=>if s.getD r Qq2<0 then 0 else(AaE s r:Int)
theorem AaF(s:Qq5):(RV s).length=s.length:=by simp[RV]
theorem Xj(s:Qq5){r:Nat}(h:r<s.length):(RV s).getD r Qq2=if s.getD r Qq2<0 then 0 else(AaE s r:Int):=by
 unfold RV;rw[Qzj,Qxq,QkD h];rfl
theorem Aeh{α β:Type}[Inhabited β](l:List α)(d:α)(f:α->Bool):(Qzb l.length).countP (fun k=>f (l.getD k d))=l.countP f:=by
 have e:l=(Qzb l.length).map fun k=>l.getD k d:=by
  apply List.ext_getElem
  ·simp
  ·intro k a h2;rw[List.getElem_map,List.getElem_range,Qzj,Qzy a];rfl
 conv=>rhs;rw[e,List.countP_map]
 rfl
theorem Yx(a:Qq4)(g:Nat->Bool):(Qzb (sym a).length).countP (fun k=>g ((op a).getD k 0))=(Qzb (a.length+1)).countP g:=by
 have h:=Aeh (β:=Nat) (op a) 0 g;rw[Eh]at h;rw[DV,h,(Ug a).countP_eq]
theorem Uh(n:Nat)(g:Nat->Bool)(a:g 0=false):(Qzb (n+1)).countP g=(Qzb n).countP fun q=>g (q+1):=by
 rw[List.range_succ_eq_map,Qka,List.countP_map,a];rfl
theorem opD{a:Qq4}{k:Nat}(h:k<(op a).length):(op a).getD k 0=(op a)[k]:=by rw[Qzj,Qzy h];rfl
theorem AhZ{a:Qq4}{r r':Nat}(hr:r<(op a).length)(hr':r'<(op a).length)(hp:(op a)[r]=(op a)[r']+1):AaE (sym a) r=r':=by
 have hle:=Yw a hr;generalize hq':(op a)[r']=p' at *;have d:(op a).countP (fun x=>lt a x p')=r':=by have:=AhY a hr';rw[hq']at this;exact this
 rw[(Ug a).countP_eq,QxC,Qk2,List.countP_singleton]at d
 have hend:lt a a.length p'=true:=by
  unfold lt;rw[Qjx]
  cases hd:a.drop p' with
  | nil=>have:=congrArg QxK hd;rw[Qz4]at this;simp at this;omega
  | cons b l=>rfl
 rw[hend,if_pos Z]at d
 have e:(Qzb (sym a).length).countP (fun k=>decide (0<=(sym a).getD k Qq2/\((sym a).getD k Qq2<(sym a).getD r Qq2\/(sym a).getD k Qq2=(sym a).getD r Qq2/\k<r)))=(Qzb (sym a).length).countP (fun k=>(fun q=>decide (1<=q)&&lt a (q - 1) p') ((op a).getD k 0)):=by
  apply Qjk;intro k hk;have hk:k<(op a).length:=by have:=QzE.1 hk;rw[DV]at this;rw[Eh];exact this
  have hkl:=Yw a hk;rw[M6 a hk,M6 a hr,opD hk,hp];have hlt:=AfS a hk hr;rw[hp]at hlt;generalize (op a)[k]=q at *;simp only[decide_eq_true_eq,QzQ];rw[NI,<- hlt];rw[hp]at hle
  constructor
  ·rintro⟨c,h2⟩;refine⟨c,?_⟩;have hd:=KR c hkl;have hd':=KR (q:=p'+1) U hle;rw[Qkx]at hd';unfold lt;rw[hd,hd'];refine decide_eq_true ((Xh _ _ _ _).2 ?_);unfold Hi at h2;rw[if_neg U,if_neg U,Qkx]at h2
   rcases h2 with h2 | ⟨h2,h3⟩
   ·exact .inl U
   ·exact .inr ⟨by omega,of_decide_eq_true h3⟩
  ·rintro⟨c,h2⟩;refine⟨c,?_⟩;have hd:=KR c hkl;have hd':=KR (q:=p'+1) U hle;rw[Qkx]at hd';unfold lt at h2;rw[hd,hd']at h2;unfold Hi;rw[if_neg U,if_neg U,Qkx]
   rcases(Xh _ _ _ _).1 (of_decide_eq_true h2)with h | ⟨h,h'⟩
   ·exact .inl U
   ·exact .inr ⟨by omega,decide_eq_true h'⟩
 unfold AaE;rw[e,Yx a (fun q=>decide (1<=q)&&lt a (q - 1) p'),Uh _ _ Qqd]
 have f:(Qzb a.length).countP (fun q=>decide (1<=q+1)&&lt a (q+1 - 1) p')=(Qzb a.length).countP (fun x=>lt a x p'):=by
  apply Qjk;intro k _;simp
 rw[f];omega
end Go.L
end
noncomputable section
namespace Go.L
open Go
def Yy(s:Qq5)(c:Int)(k r:Nat):Bool:=decide (0<=s.getD r Qq2/\(s.getD r Qq2<c\/s.getD r Qq2=c/\r<k))
def LB(s:Qq5)(c:Int)(k:Nat):Qq5:=(Qzb s.length).map fun r=>if Yy s c k r then(AaE s r:Int)else 0
def NX(s:Qq5)(c:Int)(k:Nat):Nat:=1+(Qzb s.length).countP (Yy s c k)
theorem PN(s:Qq5)(c:Int)(k:Nat):(LB s c k).length=s.length:=by simp[LB]
theorem AkK(s:Qq5)(c:Int)(k:Nat):NX s c k<=1+s.length:=by
 unfold NX;have:=QjQ (p:=Yy s c k) (l:=Qzb s.length);rw[QxQ]at this;omega
theorem AjW{s:Qq5}{k:Nat}:NX s (s.getD k Qq2) k=AaE s k:=Z
theorem AaG(s:Qq5){c:Int}(hc:0<=c)(k r:Nat):Yy s c (k+1) r=(Yy s c k r||decide (r=k/\s.getD k Qq2=c)):=by
 unfold Yy;rw[Qz7];simp only[Qxj,decide_eq_true_eq]
 constructor
 ·rintro⟨a,h2 | ⟨h2,h3⟩⟩
  ·exact .inl ⟨a,.inl h2⟩
  ·by_cases h:r=k
   ·subst h;exact .inr ⟨Z,h2⟩
   ·exact .inl ⟨a,.inr ⟨h2,by omega⟩⟩
 ·rintro(⟨a,h2 | ⟨h2,h3⟩⟩ | ⟨rfl,h⟩)
  ·exact⟨a,.inl h2⟩
  ·exact⟨a,.inr ⟨h2,by omega⟩⟩
  ·exact⟨by omega,.inr ⟨h,by omega⟩⟩
theorem Adi{s:Qq5}{c:Int}(hc:0<=c){k:Nat}(hk:k<s.length):LB s c (k+1)=if s.getD k Qq2=c then(LB s c k).set k (NX s c k)else LB s c k:=by
 apply Qky;intro r
 by_cases hr:r<s.length
 ·have b:(LB s c (k+1))[r]? = some (if Yy s c (k+1) r then(AaE s r:Int)else 0):=by simp[LB,hr]
  have a:(LB s c k)[r]? = some (if Yy s c k r then(AaE s r:Int)else 0):=by simp[LB,hr]
  rw[b,AaG s hc]
  by_cases h:s.getD k Qq2=c
  ·rw[if_pos h,QjZ,PN,a]
   by_cases hkr:k=r
   ·subst hkr;rw[if_pos Z,if_pos hk];have:(Yy s c k k||decide (k=k/\s.getD k Qq2=c))=true:=by rw[decide_eq_true (⟨Z,h⟩:k=k/\s.getD k Qq2=c),Bool.or_true]
    rw[this,if_pos Z,<- AjW,h]
   ·rw[if_neg hkr];have:decide (r=k/\s.getD k Qq2=c)=false:=decide_eq_false (fun e=>hkr e.1.symm);rw[this,Bool.or_false]
  ·rw[if_neg h,a];have:decide (r=k/\s.getD k Qq2=c)=false:=decide_eq_false (fun e=>h e.2);rw[this,Bool.or_false]
 ·rw[QxJ (by rw[PN];omega)]
  split
  ·rw[QxJ (by rw[Qk6,PN];omega)]
  ·rw[QxJ (by rw[PN];omega)]
theorem Adj{s:Qq5}{c:Int}(hc:0<=c){k:Nat}(hk:k<s.length):NX s c (k+1)=if s.getD k Qq2=c then NX s c k+1 else NX s c k:=by
 unfold NX
 have e:(Qzb s.length).countP (Yy s c (k+1))=(Qzb s.length).countP (Yy s c k)+(Qzb s.length).countP (fun r=>decide (r=k/\s.getD k Qq2=c)):=by
  generalize Qzb s.length=l
  induction l with
  | nil=>rfl
  | cons r l ih=>
   rw[Qka,Qka,Qka,ih,AaG s hc]
   by_cases h:r=k/\s.getD k Qq2=c
   ·have h2:Yy s c k r=false:=by
     unfold Yy;rw[h.1,h.2];exact decide_eq_false U
    rw[h2,decide_eq_true h];simp only[Bool.or_true,if_true,Qxk,if_false];omega
   ·rw[decide_eq_false h,Bool.or_false];simp only[Qxk,if_false];omega
 rw[e]
 by_cases h:s.getD k Qq2=c
 ·rw[if_pos h]
  have:(Qzb s.length).countP (fun r=>decide (r=k/\s.getD k Qq2=c))=1:=by
   have a:(Qzb s.length).countP (fun r=>decide (r=k/\s.getD k Qq2=c))=(Qzb s.length).count k:=by
    unfold List.count;apply Qjk;intro r _;rw[decide_eq_true_eq,beq_iff_eq];exact⟨fun e=>e.1,fun e=>⟨e,h⟩⟩
   rw[a,List.nodup_range.count,if_pos (QzE.2 hk)]
  omega
 ·rw[if_neg h];have:(Qzb s.length).countP (fun r=>decide (r=k/\s.getD k Qq2=c))=0:=Qk9.2 (fun r _=>by rw[decide_eq_false (fun e:r=k/\s.getD k Qq2=c=>h e.2)];decide);omega
theorem AaH(s:Qq5)(c:Int){r:Nat}(hr:r<s.length):Yy s c s.length r=Yy s (c+1) 0 r:=by
 unfold Yy;rw[Qz7];simp only[decide_eq_true_eq];omega
theorem Aia(s:Qq5)(c:Int):LB s c s.length=LB s (c+1) 0:=by
 unfold LB;apply QkQ;intro r hr;rw[AaH s c (QzE.1 hr)]
theorem Aib(s:Qq5)(c:Int):NX s c s.length=NX s (c+1) 0:=by
 unfold NX;rw[Qjk fun r hr=>by rw[AaH s c (QzE.1 hr)]]
theorem Aic(s:Qq5):LB s 0 0=Qzv s.length 0:=by
 unfold LB
 rw[QkQ (g:=fun _=>(0:Int)) (fun r _=>by
  have:Yy s 0 0 r=false:=decide_eq_false U;rw[this];rfl)]
 rw[List.map_const',QxQ]
theorem Aid(s:Qq5):NX s 0 0=1:=by
 unfold NX
 rw[Qk9.2 (fun r _=>by
  have:Yy s 0 0 r=false:=decide_eq_false U;rw[this];decide)]
theorem AjX{s:Qq5}(h:∀r,r<s.length->s.getD r Qq2<256):LB s 256 0=RV s:=by
 unfold LB RV;apply QkQ;intro r hr;have:=h r (QzE.1 hr)
 by_cases a:s.getD r Qq2<0
 ·have e:Yy s 256 0 r=false:=decide_eq_false U;rw[e,if_pos a];rfl
 ·have e:Yy s 256 0 r=true:=decide_eq_true U;rw[e,if_neg a];rfl
def wlk(s B:Qq5):Nat->Qq5->Nat->(Qq5×Qq5×Qq5)×Bool
 | 0,A,r=>((s,B,A.set r 0),decide (s.getD r Qq2 = -1))
 | i+1,A,r=>if s.getD r Qq2 = -1 then(([],[],[]),false)else wlk s B i (A.set r ((i+1:Nat):Int)) (B.getD r Qq2).toNat
end Go.L
namespace Go.Proofs.YtopocbcekabkoaaGreatDoor
open Go Go.L
theorem AbY{s:Qq5}{c:Nat}(hl:s.length<=2049)(hc:c<256):
  Lz s (c:Int) (LB s c 0,(NX s c 0:Int),0)=some (.inl (LB s ((c+1:Nat):Int) 0,(NX s ((c+1:Nat):Int) 0:Int),((c+1:Nat):Int))):=by
 have a:(0:Int)<=(c:Int):=by omega
 refine BR (b:=Ec s (c:Int)) (fun k=>(LB s c k,(NX s c k:Int),(k:Int))) s.length (fun k hk=>?_) ?_ 0
 ·unfold Ec;simp only;have:=AkK s c k;rw[if_pos U,Ac U,Qzk]
  by_cases h:s.getD k Qq2=(c:Int)
  ·rw[if_pos h,Ac (by rw[PN];omega),Ac (by constructor <;> omega),Ac (by constructor <;> omega),Adi a hk,if_pos h,Adj a hk,if_pos h]
   rfl
  ·rw[if_neg h,Ac (by constructor <;> omega),Adi a hk,if_neg h,Adj a hk,if_neg h]
   rfl
 ·unfold Ec;simp only;rw[if_neg U];unfold Ik;rw[Ac (by constructor <;> omega),Aia,Aib]
  rfl
theorem Yz{s B:Qq5}(hl:s.length<=2049)(hB:B.length=s.length)(hr:∀r,r<s.length->0<=B.getD r Qq2/\B.getD r Qq2<s.length):∀(i:Nat) (A:Qq5) (r:Nat),i<=s.length->A.length=s.length->r<s.length->
  Io s s B (A,(r:Int),(i:Int))=some (wlk s B i A r)
 | 0,A,r,_,hA,h=>by
  refine AV (b:=Da s s B) (m:=some _) ?_;unfold Da;simp only;rw[if_neg U];unfold Im Il;rw[Ac U,Ac U,Qzk]
  rfl
 | i+1,A,r,hi,hA,h=>by
  have hb:Da s s B (A,(r:Int),((i+1:Nat):Int))=if s.getD r Qq2 = -1 then some (.inr (([],[],[]),false))else some (.inl (A.set r ((i+1:Nat):Int),(((B.getD r Qq2).toNat:Nat):Int),(i:Int))):=by
   unfold Da;simp only;rw[if_pos U,Ac U,Ac U,Qzk]
   split
   ·rfl
   ·rw[Ac U,Ac (by constructor <;> omega),Int.toNat_of_nonneg (hr r h).1,show((i+1:Nat):Int) - 1=(i:Int) by omega]
  unfold Io wlk
  by_cases a:s.getD r Qq2 = -1
  ·rw[if_pos a]at hb ⊢;exact AV (m:=some _) hb
  ·rw[if_neg a]at hb ⊢;rw[Bh hb];have:=hr r h;exact Yz hl hB hr i _ _ U (by rw[Qk6];exact hA) U
theorem AfV{s:Qq5}(a:0<s.length)(hl:s.length<=2049)(hs:∀r,r<s.length->s.getD r Qq2<256)(hr:∀r,r<s.length->(RV s).getD r Qq2<s.length):
  FQ s=some (wlk s (RV s) (s.length - 1) (Qzv s.length 0) 0):=by
 have e:((s.length:Int) - 1+1).toNat=s.length:=by omega
 unfold FQ;rw[Ac (by constructor <;> omega),Ac (by constructor <;> omega),Ac (by constructor <;> omega),Ac U,Ac U,e];unfold Iq;have hpos:∀r,r<s.length->0<=(RV s).getD r Qq2/\(RV s).getD r Qq2<s.length:=fun r h=>⟨by rw[Xj s h];split <;> omega,hr r h⟩
 have key:=BR (b:=Ed s s (Qzv s.length 0)) (m:=some (wlk s (RV s) (s.length - 1) (Qzv s.length 0) 0)) (fun c=>(LB s c 0,(NX s c 0:Int),(c:Int))) 256 (fun c hc=>by
  unfold Ed;simp only;rw[if_pos U];exact AbY hl hc) (by
  unfold Ed;simp only;rw[if_neg U];unfold Ip;have:=Yz hl (AaF s) hpos (s.length - 1) (Qzv s.length 0) 0 U Qqd a;rw[show LB s ((256:Nat):Int) 0=RV s from AjX hs];rw[show(s.length:Int) - 1=((s.length - 1:Nat):Int) by omega];exact congrArg (Qzx Sum.inr) this) 0 (hi:=(by omega))
 rw[show LB s ((0:Nat):Int) 0=Qzv s.length 0 from Aic s,show NX s ((0:Nat):Int) 0=1 from Aid s]at key;exact key
end Go.Proofs.YtopocbcekabkoaaGreatDoor
end
noncomputable section
namespace Go.L
open Go
theorem AaI{a:Qq4}{r r':Nat}(hr:r<(op a).length)(hr':r'<(op a).length)(hp:(op a)[r]=(op a)[r']+1):(RV (sym a)).getD r Qq2=(r':Int):=by
 rw[Xj _ (by rw[DV,<- Eh];exact hr),M6 a hr];have h:0<=Hi a (op a)[r]:=(NI a _).2 U;rw[if_neg U,AhZ hr hr' hp]
theorem Aie{a:Qq4}{r:Nat}(h:r<(sym a).length):(RV (sym a)).getD r Qq2<(sym a).length:=by
 have hr:r<(op a).length:=by rw[Eh,<- DV];exact h
 by_cases b:(op a)[r]=0
 ·rw[Xj _ h,M6 a hr,b];have:Hi a 0<0:=by unfold Hi;rw[if_pos Z];decide
  rw[if_pos this];omega
 ·have hle:=Yw a hr;obtain⟨r',hr',e⟩:=Adh (a:=a) (p:=(op a)[r] - 1) U;rw[AaI hr hr' U];rw[Eh,<- DV]at hr';omega
theorem AjY{a:Qq4}{r:Nat}(h:r<(sym a).length):(sym a).getD r Qq2<256:=by
 rw[M6 a (by rw[Eh,<- DV];exact h)];exact AfU a _
def opI(a:Qq4):Qq5:=(op a).map fun x:Nat=>(x:Int)
theorem Xk(a:Qq4):(opI a).length=a.length+1:=by rw[opI,Qza,Eh]
theorem AaJ(a:Qq4):∀(p:Nat) (A:Qq5) (r:Nat) (hr:r<(op a).length),(op a)[r]=p->A.length=a.length+1->(∀k (hk:k<(op a).length),p<(op a)[k]->A[k]? = some (((op a)[k]:Nat):Int))->
  wlk (sym a) (RV (sym a)) p A r=((sym a,RV (sym a),opI a),true)
 | 0,A,r,hr,hp,hA,hk=>by
  have d:A.set r 0=opI a:=by
   apply Qky;intro k
   by_cases hkl:k<(op a).length
   ·have e:(opI a)[k]? = some (((op a)[k]:Nat):Int):=by simp[opI,hkl]
    rw[QjZ,e]
    by_cases h:r=k
    ·subst h;rw[if_pos Z,if_pos (by rw[hA,<- Eh];exact hr),hp];rfl
    ·rw[if_neg h];refine hk k hkl (Nat.pos_of_ne_zero fun f=>h (AfT hr hkl (by rw[hp,f])))
   ·rw[QxJ (by rw[Qk6,hA,<- Eh];omega),QxJ (by rw[Xk,<- Eh];omega)]
  unfold wlk;rw[d,M6 a hr,hp]
  rfl
 | p+1,A,r,hr,hp,hA,hk=>by
  have hle:=Yw a hr;obtain⟨r',hr',e⟩:=Adh (a:=a) (p:=p) U;have hn:0<=Hi a (p+1):=(NI a _).2 U;unfold wlk;rw[M6 a hr,hp,if_neg U,AaI hr hr' U,Qzk];refine AaJ a p _ r' hr' e (by rw[Qk6];exact hA) fun k b g=>?_;rw[QjZ]
  by_cases h:r=k
  ·subst h;rw[if_pos Z,if_pos (by rw[hA,<- Eh];exact hr),hp]
  ·rw[if_neg h];refine hk k b ?_
   rcases Qxa (p+1) (op a)[k]with c | c
   ·exact c
   ·exact absurd (AfT hr b U) h
theorem Aif(a:Qq4):(op a)[0]'(by rw[Eh];omega)=a.length:=Z
def idx(a:Qq4):Qq5×Qq5×Qq5:=(sym a,RV (sym a),opI a)
end Go.L
namespace Go.Proofs.YtopocbcekabkoaaGreatDoor
open Go Go.L
theorem Aei{a:Qq4}(h:a.length<=2048):FQ (sym a)=some (idx a,true):=by
 rw[AfV (by rw[DV];omega) (by rw[DV];omega) (fun _=>AjY) (fun _=>Aie),DV,Qkx];rw[AaJ a a.length _ 0 (by rw[Eh];omega) (Aif a) Qqd (fun k hk h=>by have:=Yw a hk;omega)]
 rfl
theorem Aig{x:Int}{l:Qq5}(h:l.length<=2048):GG [[x],l]=some (x::l):=by
 have a:∀s:Int×Int,Kx [[x],l] s=Go.L.run (BK [[x],l]) s:=fun _=>Z;have hn:(([[x],l]:List Qq5).length:Int)=2:=Z;have b:∀s:Qq5×Int,Hl [[x],l] s=Go.L.run (BJ [[x],l]) s:=fun _=>Z
 have a1:BK [[x],l] (0,0)=some (.inl (1,1)):=by
  unfold BK;rfl
 have a2:BK [[x],l] (1,1)=some (.inl (1+(l.length:Int),2)):=by
  unfold BK;simp only;have e:([[x],l]:List Qq5).getD (1:Int).toNat Qq2=l:=Z;rw[hn,if_pos Qqc,Ac Qqc,e,Ac (by constructor <;> omega),if_neg U,Ac (by constructor <;> omega)]
  rfl
 have c:BJ [[x],l] ([],0)=some (.inl ([x],1)):=by
  unfold BJ;rfl
 have d:BJ [[x],l] ([x],1)=some (.inl (x::l,2)):=by
  unfold BJ;simp only;have e:([[x],l]:List Qq5).getD (1:Int).toNat Qq2=l:=Z;rw[hn,if_pos Qqc,Ac Qqc,e,Ac (by simp only[Qxv];constructor <;> omega),Ac Qqc]
  rfl
 have f:BJ [[x],l] (x::l,2)=(some (x::l)).map .inr:=by
  unfold BJ;simp only;rw[hn,if_neg Qqc];rfl
 have a3:BK [[x],l] (1+(l.length:Int),2)=(some (x::l)).map .inr:=by
  unfold BK;simp only;rw[hn,if_neg Qqc];unfold Hm Kf Ir;rw[if_neg U,Ac Qqc,Ac (by constructor <;> omega),if_pos U,Ac U]
  show Qzx Sum.inr (Hl [[x],l] ([],0))=_
  rw[b,Bh c,Bh d,AV f]
 unfold GG;rw[a,Bh a1,Bh a2,AV a3]
theorem AfW(a:Qq4):opI a=(a.length:Int)::CV a:=by
 unfold opI op;rw[QzA,Qkk]
 congr 1
 conv=>rhs;rw[<- List.map_id (CV a)]
 apply QkQ;intro x hx;have:=(Xf a).1 hx
 show((x.toNat:Nat):Int)=x
 omega
theorem Aih(a:Qq4){r:Nat}(h:r<(op a).length):(opI a).getD r Qq2=(((op a)[r]:Nat):Int):=by
 unfold opI;rw[Qzj,Qxq,Qzy h];rfl
theorem Ui(a:Qq4):Ky a=some (if a.length<=2048 then(idx a,(0,0))else(([],[],[]),(3,-1))):=by
 unfold Ky;rw[Aef]
 by_cases h:a.length<=2048
 ·rw[if_pos h,if_pos h];rw[Qzq,if_pos ⟨Z,Z⟩,Ac (by constructor <;> omega),Ac U,Aig (by rw[M5];exact h),Qzq,<- AfW];have hl:=Xk a;have ho:=Eh a
  have key:=BR (b:=Hc a (opI a)) (m:=some (idx a,((0:Int),(0:Int)))) (fun k=>((sym a).take k,(k:Int))) (a.length+1) (fun k hk=>by
   unfold Hc;simp only;have hk':k<(op a).length:=by omega
   have hle:=Yw a hk';have htk:((sym a).take k).length=k:=by rw[QzC,DV];omega
   have hs:(sym a).take (k+1)=(sym a).take k++[Hi a (op a)[k]]:=by
    rw[Qx7];have:(sym a)[k]? = some (Hi a (op a)[k]):=by simp[sym,hk']
    rw[this];rfl
   rw[if_pos U,Ac U,Qzk,Aih a hk']
   by_cases c:(op a)[k]=0
   ·rw[c]at hs ⊢;rw[if_pos (show((0:Nat):Int)=0 from Z),Ac (by rw[htk];simp only[Qxv];constructor <;> omega),Ac (by constructor <;> omega),hs]
    rfl
   ·rw[if_neg U,Ac (by constructor <;> omega),Ac U,Ac (by rw[htk];simp only[Qxv];constructor <;> omega),Ac (by constructor <;> omega),hs];have d:(((op a)[k]:Int) - 1).toNat=(op a)[k] - 1:=by omega
    unfold Hi;rw[if_neg c,d]
    rfl) (by
   unfold Hc;simp only;rw[if_neg U,Qxb (by rw[DV];omega)];unfold Mm;rw[Aei h]
   rfl) 0 (hi:=(by omega))
  exact key
 ·rw[if_neg h,if_neg h];rfl
end Go.Proofs.YtopocbcekabkoaaGreatDoor
end
noncomputable section
namespace Go.L
open Go
def bt(l:Qq4)(k:Nat):Nat:=(l.getD k Qq2).toNat
def cont(l:Qq4)(k:Nat):Bool:=decide (k<l.length/\128<=bt l k/\bt l k<=191)
def pt3(l:Qq4):Nat:=((bt l 0 - 224) * 64+(bt l 1 - 128)) * 64+(bt l 2 - 128)
def pt4(l:Qq4):Nat:=(((bt l 0 - 240) * 64+(bt l 1 - 128)) * 64+(bt l 2 - 128)) * 64+(bt l 3 - 128)
def QO(l:Qq4):Nat:=
 if 194<=bt l 0/\bt l 0<=223 then(if cont l 1 then 2 else 0)
 else if 224<=bt l 0/\bt l 0<=239 then(if cont l 1/\cont l 2/\2048<=pt3 l/\¬(55296<=pt3 l/\pt3 l<=57343)then 3 else 0)
 else if 240<=bt l 0/\bt l 0<=244 then(if cont l 1/\cont l 2/\cont l 3/\65536<=pt4 l/\pt4 l<=1114111 then 4 else 0)
 else 0
def asc(c:Nat):Bool:=decide ((48<=c/\c<=57)\/(97<=c/\c<=122)\/(65<=c/\c<=90))
def M7(l:Qq4):Nat:=if asc (bt l 0)then 1 else QO l
def I1(c:UInt8):UInt8:=if 65<=(c.toNat:Int)/\(c.toNat:Int)<=90 then c+32 else c
theorem Aij{c:UInt8}(h:128<=c.toNat):I1 c=c:=by unfold I1;rw[if_neg U]
theorem Aik(a:Qq4)(i k:Nat):bt (a.drop i) k=bt a (i+k):=by
 unfold bt;rw[Qzj,Qzj,QxZ]
theorem AfX(l:Qq4)(h:l≠[]):QO l<=l.length:=by
 have hl:=Qkv.2 h;unfold QO cont
 split
 ·split
  ·rename_i a;have:=of_decide_eq_true a;omega
  ·omega
 ·split
  ·split
   ·rename_i a;have:=of_decide_eq_true a.2.1;omega
   ·omega
  ·split
   ·split
    ·rename_i a;have:=of_decide_eq_true a.2.2.1;omega
    ·omega
   ·omega
theorem AbZ(l:Qq4)(h:l≠[]):M7 l<=l.length:=by
 have hl:=Qkv.2 h;unfold M7
 split
 ·omega
 ·exact AfX l h
theorem Ail{l:Qq4}(h:bt l 0<128):QO l=0:=by
 unfold QO;rw[if_neg U,if_neg U,if_neg U]
theorem VV{l:Qq4}(_hs:QO l≠0):(l.take (QO l)).map I1=l.take (QO l):=by
 have key:∀k,k<QO l->128<=bt l k:=by
  intro k hk;unfold QO at hk;unfold cont at hk
  split at hk
  ·split at hk
   ·rename_i a;have:=of_decide_eq_true a;obtain h | h:k=0\/k=1:=by omega
    all_goals subst h;omega
   ·omega
  ·split at hk
   ·split at hk
    ·rename_i a;have h2:=of_decide_eq_true a.1;have h3:=of_decide_eq_true a.2.1;obtain h | h | h:k=0\/k=1\/k=2:=by omega
     all_goals subst h;omega
    ·omega
   ·split at hk
    ·split at hk
     ·rename_i a;have h2:=of_decide_eq_true a.1;have h3:=of_decide_eq_true a.2.1;have b:=of_decide_eq_true a.2.2.1;obtain h | h | h | h:k=0\/k=1\/k=2\/k=3:=by omega
      all_goals subst h;omega
     ·omega
    ·omega
 apply List.ext_getElem Qqd;intro k a h2;rw[List.getElem_map,List.getElem_take];apply Aij;have hk:k<QO l:=by simp at h2;omega
 have:=key k hk;have hkl:k<l.length:=by simp at h2;omega
 unfold bt at this;rw[Qzj,Qzy hkl]at this;exact this
theorem AaK(l:Qq4)(k:Nat):((ByteArray.mk l.toArray).get! k).toNat=bt l k:=by
 simp[ByteArray.get!,bt,Qzj,getElem!_def]
 cases h:l[k]? <;> rfl
theorem AjZ(l:Qq4)(hne:l≠[])(m:128<=bt l 0):(QO l=0->Lib.decodeGo ⟨l.toArray⟩=(65533,1))/\(QO l≠0->(Lib.decodeGo ⟨l.toArray⟩).2=QO l/\QO l≠1):=by
 have hsz:(ByteArray.mk l.toArray).size=l.length:=by simp[Qx6]
 have hl:=Qkv.2 hne
 have hc:∀k,(decide (0+k<(ByteArray.mk l.toArray).size)&&((ByteArray.mk l.toArray).get! (0+k)).toNat / 64==2)=cont l k:=by
  intro k;rw[QzJ,hsz,AaK];unfold cont
  by_cases a:k<l.length
  ·by_cases h2:bt l k / 64=2
   ·rw[decide_eq_true a,Qkw,beq_iff_eq.2 h2,decide_eq_true ⟨a,by omega,by omega⟩]
   ·rw[decide_eq_true a,Qkw,beq_eq_false_iff_ne.2 h2,decide_eq_false (fun h=>h2 U)]
  ·rw[decide_eq_false a,Bool.false_and,decide_eq_false (fun h=>a h.1)]
 unfold Lib.decodeGo;rw[hsz,if_neg U];unfold Utf8.decode;simp only[hc];simp only[QzJ,AaK]
 have hv:∀c:Nat,Utf8.valid c=decide (c<55296\/(57344<=c/\c<=1114111)):=by
  intro c;rw[Qz7];unfold Utf8.valid;simp only[Qxj,QzQ,decide_eq_true_eq];omega
 simp only[hv];have f1:cont l 1=true->128<=bt l 1/\bt l 1<=191:=fun h=>(of_decide_eq_true h).2;have f2:cont l 2=true->128<=bt l 2/\bt l 2<=191:=fun h=>(of_decide_eq_true h).2;have f3:cont l 3=true->128<=bt l 3/\bt l 3<=191:=fun h=>(of_decide_eq_true h).2;have hb:bt l 0<256:=Qkb _;unfold QO pt3 pt4 Utf8.runeError;generalize bt l 0=b at *;generalize bt l 1=d at *;generalize bt l 2=f at *;generalize bt l 3=g at *;generalize cont l 1=c1 at *;generalize cont l 2=c2 at *;generalize cont l 3=c3 at *;simp only[QzQ,beq_iff_eq,decide_eq_true_eq]
 by_cases hA:194<=b/\b<=223
 ·rw[if_pos hA,if_neg (show ¬b<128 by omega)]
  by_cases a:c1=true
  ·have:=f1 a;rw[if_pos a,if_pos (show b / 32=6/\c1=true from⟨by omega,a⟩),if_pos (show b % 32 * 64+d % 64>=128 by omega)];exact⟨fun h=>absurd h Qqc,fun _=>⟨Z,by decide⟩⟩
  ·rw[if_neg a,if_neg (show ¬(b / 32=6/\c1=true)from fun h=>a h.2),if_neg (show ¬((b / 16=14/\c1=true)/\c2=true)from fun h=>by omega),if_neg (show ¬(((b / 8=30/\c1=true)/\c2=true)/\c3=true)from fun h=>by omega)];exact⟨fun _=>Z,fun h=>absurd Z h⟩
 rw[if_neg hA]
 by_cases hB:224<=b/\b<=239
 ·rw[if_pos hB,if_neg (show ¬b<128 by omega),if_neg (show ¬(b / 32=6/\c1=true)from fun h=>by omega)]
  by_cases a:c1=true/\c2=true
  ·have i:=f1 a.1;have j:=f2 a.2;rw[if_pos (show(b / 16=14/\c1=true)/\c2=true from⟨⟨by omega,a.1⟩,a.2⟩)];have e:b % 16 * 4096+d % 64 * 64+f % 64=((b - 224) * 64+(d - 128)) * 64+(f - 128):=by omega
   rw[e]
   by_cases h2:2048<=((b - 224) * 64+(d - 128)) * 64+(f - 128)/\¬(55296<=((b - 224) * 64+(d - 128)) * 64+(f - 128)/\((b - 224) * 64+(d - 128)) * 64+(f - 128)<=57343)
   ·rw[if_pos ⟨a.1,a.2,h2⟩,if_pos ⟨h2.1,U⟩];exact⟨fun h=>absurd h Qqc,fun _=>⟨Z,by decide⟩⟩
   ·rw[if_neg (fun h=>h2 h.2.2),if_neg (fun h=>h2 ⟨h.1,by omega⟩)];exact⟨fun _=>Z,fun h=>absurd Z h⟩
  ·rw[if_neg (fun h=>a ⟨h.1,h.2.1⟩),if_neg (show ¬((b / 16=14/\c1=true)/\c2=true)from fun h=>a ⟨h.1.2,h.2⟩),if_neg (show ¬(((b / 8=30/\c1=true)/\c2=true)/\c3=true)from fun h=>by omega)];exact⟨fun _=>Z,fun h=>absurd Z h⟩
 rw[if_neg hB]
 by_cases hC:240<=b/\b<=244
 ·rw[if_pos hC,if_neg (show ¬b<128 by omega),if_neg (show ¬(b / 32=6/\c1=true)from fun h=>by omega),if_neg (show ¬((b / 16=14/\c1=true)/\c2=true)from fun h=>by omega)]
  by_cases a:c1=true/\c2=true/\c3=true
  ·have i:=f1 a.1;have j:=f2 a.2.1;have n:=f3 a.2.2;rw[if_pos (show((b / 8=30/\c1=true)/\c2=true)/\c3=true from⟨⟨⟨by omega,a.1⟩,a.2.1⟩,a.2.2⟩)];have e:b % 8 * 262144+d % 64 * 4096+f % 64 * 64+g % 64=(((b - 240) * 64+(d - 128)) * 64+(f - 128)) * 64+(g - 128):=by omega
   rw[e]
   by_cases h2:65536<=(((b - 240) * 64+(d - 128)) * 64+(f - 128)) * 64+(g - 128)/\(((b - 240) * 64+(d - 128)) * 64+(f - 128)) * 64+(g - 128)<=1114111
   ·rw[if_pos ⟨a.1,a.2.1,a.2.2,h2⟩,if_pos ⟨h2.1,by omega⟩];exact⟨fun h=>absurd h Qqc,fun _=>⟨Z,by decide⟩⟩
   ·rw[if_neg (fun h=>h2 h.2.2.2),if_neg (fun h=>h2 ⟨h.1,by omega⟩)];exact⟨fun _=>Z,fun h=>absurd Z h⟩
  ·rw[if_neg (fun h=>a ⟨h.1,h.2.1,h.2.2.1⟩),if_neg (fun h=>a ⟨h.1.1.2,h.1.2,h.2⟩)];exact⟨fun _=>Z,fun h=>absurd Z h⟩
 rw[if_neg hC];refine⟨fun _=>?_,fun h=>absurd Z h⟩;rw[if_neg (show ¬b<128 by omega)]
 by_cases a:b / 32=6/\c1=true
 ·have:=f1 a.2;rw[if_pos a,if_neg (show ¬(b % 32 * 64+d % 64>=128) by omega)]
 ·rw[if_neg a,if_neg (show ¬((b / 16=14/\c1=true)/\c2=true)from fun h=>by omega)]
  by_cases h2:((b / 8=30/\c1=true)/\c2=true)/\c3=true
  ·have i:=f1 h2.1.1.2;rw[if_pos h2,if_neg (fun h=>by omega)]
  ·rw[if_neg h2]
end Go.L
namespace Go.Proofs.YtopocbcekabkoaaGreatDoor
open Go Go.L
theorem Aej{l:Qq4}(hne:l≠[]):N7 l=some (if M7 l=0 then([],1)else((l.take (M7 l)).map I1,((M7 l:Nat):Int))):=by
 have hl:=Qkv.2 hne;obtain⟨c,m,rfl⟩:=Qjj hne;have i:(c::m).getD ((0:Int).toNat) Qq2=c:=Z;have eb:bt (c::m) 0=c.toNat:=Z;have hc:=c.toNat_lt;unfold N7;rw[Ac ⟨by decide,by omega⟩,i]
 have hup:(65<=(c.toNat:Int))/\((c.toNat:Int)<=90)->AU (((c - (65:UInt8))+(97:UInt8)).toNat<128) (some ([((c - (65:UInt8))+(97:UInt8))],(1:Int)))=some (if M7 (c::m)=0 then([],1)else(((c::m).take (M7 (c::m))).map I1,((M7 (c::m):Nat):Int))):=by
  intro h
  have e:(c - (65:UInt8))+(97:UInt8)=c+32:=by
   apply UInt8.toNat.inj;rw[UInt8.toNat_add,UInt8.toNat_sub,UInt8.toNat_add];have j:(97:UInt8).toNat=97:=Z;have k:(65:UInt8).toNat=65:=Z;have g:(32:UInt8).toNat=32:=Z;omega
  have n:(c+32).toNat=c.toNat+32:=by
   rw[UInt8.toNat_add];have g:(32:UInt8).toNat=32:=Z;omega
  have d:M7 (c::m)=1:=by unfold M7 asc;rw[eb,if_pos (decide_eq_true U)]
  rw[e,Ac U,d,if_neg Qqc]
  show some ([c+32],(1:Int))=some ([I1 c],1)
  unfold I1;rw[if_pos h]
 have hlo:(48<=(c.toNat:Int))/\((c.toNat:Int)<=57)\/(97<=(c.toNat:Int))/\((c.toNat:Int)<=122)->AU (c.toNat<128) (some ([c],(1:Int)))=some (if M7 (c::m)=0 then([],1)else(((c::m).take (M7 (c::m))).map I1,((M7 (c::m):Nat):Int))):=by
  intro h;have d:M7 (c::m)=1:=by unfold M7 asc;rw[eb,if_pos (decide_eq_true U)]
  rw[Ac U,d,if_neg Qqc]
  show some ([c],(1:Int))=some ([I1 c],1)
  unfold I1;rw[if_neg U]
 have hnon:asc c.toNat=false->(if(c.toNat:Int)<128 then some (([]:Qq4),(1:Int))else Qq9 (Af7 (c::m)) (fun a=>if(a.1=(65533:Int))/\(a.2=(1:Int))then some (([]:Qq4),(1:Int))else Go.L.AU (0<=a.2/\a.2<=((c::m).length:Int)) (some (((c::m).take a.2.toNat),a.2))))=some (if M7 (c::m)=0 then([],1)else(((c::m).take (M7 (c::m))).map I1,((M7 (c::m):Nat):Int))):=by
  intro h;have d:M7 (c::m)=QO (c::m):=by unfold M7;rw[if_neg (by rw[eb,h];decide)]
  rw[d]
  by_cases b:(c.toNat:Int)<128
  ·rw[if_pos b,Ail (by rw[eb];omega),if_pos Z]
  ·rw[if_neg b];have hd:=AjZ (c::m) hne (by rw[eb];omega);unfold Af7;rw[Ac hne,Qzq]
   by_cases h2:QO (c::m)=0
   ·rw[hd.1 h2,if_pos ⟨Z,Z⟩,if_pos h2]
   ·obtain⟨h3,f⟩:=hd.2 h2;have o:=AfX (c::m) hne;simp only[h3];rw[if_neg U,Ac ⟨by omega,by omega⟩,if_neg h2,Qzk,VV h2]
 by_cases b:(48<=(c.toNat:Int))/\((c.toNat:Int)<=57)
 ·rw[if_pos b];exact hlo (.inl b)
 rw[if_neg b]
 by_cases h2:97<=(c.toNat:Int)
 ·rw[if_pos h2]
  by_cases h3:(c.toNat:Int)<=122
  ·rw[if_pos h3];exact hlo (.inr ⟨h2,h3⟩)
  ·rw[if_neg h3,if_neg U];exact hnon (decide_eq_false U)
 ·rw[if_neg h2]
  by_cases f:(65<=(c.toNat:Int))/\((c.toNat:Int)<=90)
  ·rw[if_pos f];exact hup f
  ·rw[if_neg f];exact hnon (decide_eq_false U)
end Go.Proofs.YtopocbcekabkoaaGreatDoor
namespace Go.L
open Go
abbrev W:=Qq4×Int×Int
abbrev WS:=(List W×Int)⊕List W
def fin(cur:Qq4)(fr at':Nat):List W:=if cur=[]then[]else[(cur,(fr:Int),(at':Int))]
def VW(a:Qq4):Nat->Nat->Qq4->Nat->List W
 | 0,at',cur,fr=>fin cur fr at'
 | f+1,at',cur,fr=>
  if at'<a.length then
   if M7 (a.drop at')=0 then fin cur fr at'++VW a f (at'+1) [] (at'+1)
   else VW a f (at'+M7 (a.drop at')) (cur++((a.drop at').take (M7 (a.drop at'))).map I1) fr
  else fin cur fr at'
def Ty(a:Qq4):List W:=VW a (a.length+1) 0 [] 0
theorem Sp{a:Qq4}{f at':Nat}{cur:Qq4}{fr:Nat}(h:a.length<=at'):VW a f at' cur fr=fin cur fr at':=by
 cases f with
 | zero=>rfl
 | succ f=>unfold VW;rw[if_neg U]
theorem Zy(cur:Qq4)(fr at':Nat):(fin cur fr at').length<=1:=by unfold fin;split <;> simp
theorem VX{a:Qq4}{i:Nat}(h:i<a.length):a.drop i≠[]:=fun e=>by
 have:=congrArg QxK e;rw[Qz4,QzB]at this;omega
theorem RW{a:Qq4}{i:Nat}(h:i<a.length):i+M7 (a.drop i)<=a.length:=by
 have:=AbZ _ (VX h);rw[Qz4]at this;omega
theorem Zz{a:Qq4}{i:Nat}(h:i<a.length):(((a.drop i).take (M7 (a.drop i))).map I1).length=M7 (a.drop i):=by
 have:=AbZ _ (VX h);rw[Qza,QzC];omega
end Go.L
namespace Go.Proofs.YtopocbcekabkoaaGreatDoor
open Go Go.L
theorem Aim{a:Qq4}(hs:a.length<=1000000000000):∀(f at':Nat) (L:List W),a.length<=at'+f->L.length<=at'->at'<=a.length+1->
  run (CT a) (L,(at':Int))=some (L++VW a f at' [] at')/\
  ∀
   (cur:Qq4) (fr:Nat),(at'<a.length\/cur≠[])->at'<=a.length->cur.length<=at'->∃m,run (CS a L (fr:Int)) (cur,(at':Int))=some m/\
   (match m with | .inl s=>run (CT a) s=some (L++VW a f at' cur fr) | .inr r=>r=L++VW a f at' cur fr):=by
 intro f
 induction f with
 | zero=>
  intro at' L hf hL ha
  constructor
  ·rw[Sp U];refine AV (m:=some (L++fin [] at' at')) ?_;unfold CT;simp only;rw[if_neg U];unfold fin;rw[if_pos Z,QzZ]
  ·intro cur fr hc hle hcl;have hc:cur≠[]:=hc.resolve_left U;refine⟨.inr (L++fin cur fr at'),?_,Z⟩;refine AV (m:=some (Sum.inr (L++fin cur fr at'):WS)) ?_;unfold CS JO;simp only;rw[if_neg U,Ac (by constructor <;> omega)];unfold fin;rw[if_neg hc]
   rfl
 | succ f ih=>
  intro at' L hf hL ha
  have B:∀(cur:Qq4) (fr:Nat),(at'<a.length\/cur≠[])->at'<=a.length->cur.length<=at'->∃m,run (CS a L (fr:Int)) (cur,(at':Int))=some m/\
   (match m with | .inl s=>run (CT a) s=some (L++VW a (f+1) at' cur fr) | .inr r=>r=L++VW a (f+1) at' cur fr):=by
   intro cur fr hc hle hcl
   by_cases h:at'<a.length
   ·have hroom:=RW h;have hlow:=Zz h;have b:=Aej (VX h);unfold VW;rw[if_pos h]
    by_cases d:M7 (a.drop at')=0
    ·rw[if_pos d]at b ⊢;have e:(((at':Nat):Int)+1)=((at'+1:Nat):Int):=by omega
     by_cases hcur:cur=[]
     ·have c:=(ih (at'+1) L U U U).1;refine⟨.inl (L,((at'+1:Nat):Int)),?_,?_⟩
      ·refine AV (m:=some (Sum.inl (L,((at'+1:Nat):Int)):WS)) ?_;unfold CS;simp only;rw[if_pos U,Ac ⟨by omega,by omega⟩,Qzk,b,Qzq];simp only;rw[if_pos trivial,Ac (by constructor <;> omega),if_pos hcur,e]
      ·simp only;rw[c];unfold fin;rw[if_pos hcur,Qxe]
     ·have c:=(ih (at'+1) (L++[(cur,(fr:Int),(at':Int))]) U (by rw[Qzd,Qxv];omega) U).1;refine⟨.inl (L++[(cur,(fr:Int),(at':Int))],((at'+1:Nat):Int)),?_,?_⟩
      ·refine AV (m:=some (Sum.inl (L++[(cur,(fr:Int),(at':Int))],((at'+1:Nat):Int)):WS)) ?_;unfold CS;simp only;rw[if_pos U,Ac ⟨by omega,by omega⟩,Qzk,b,Qzq];simp only;rw[if_pos trivial,Ac (by constructor <;> omega),if_neg hcur,Ac (by constructor <;> omega),e]
      ·simp only;rw[c];unfold fin;rw[if_neg hcur,QxB]
    ·rw[if_neg d]at b ⊢;have hne:((a.drop at').take (M7 (a.drop at'))).map I1≠[]:=fun e=>by rw[e,QzB]at hlow;omega
     obtain⟨m,c,h2⟩:=(ih (at'+M7 (a.drop at')) L U U U).2 (cur++((a.drop at').take (M7 (a.drop at'))).map I1) fr (.inr (fun e=>hne (List.append_eq_nil_iff.1 e).2)) hroom (by rw[Qzd,hlow];omega);refine⟨m,?_,h2⟩;rw[<- c];refine Bh ?_;unfold CS;simp only;rw[if_pos U,Ac ⟨by omega,by omega⟩,Qzk,b,Qzq];simp only;rw[if_neg hne,Ac U,Ac (by constructor <;> omega)]
     rfl
   ·have hc:cur≠[]:=hc.resolve_left h;rw[Sp U];refine⟨.inr (L++fin cur fr at'),?_,Z⟩;refine AV (m:=some (Sum.inr (L++fin cur fr at'):WS)) ?_;unfold CS JO;simp only;rw[if_neg U,Ac (by constructor <;> omega)];unfold fin;rw[if_neg hc]
    rfl
  refine⟨?_,B⟩
  by_cases h:at'<a.length
  ·obtain⟨m,c,h2⟩:=B [] at' (.inl h) U Qqd
   have hb:CT a (L,(at':Int))=some m:=by
    unfold CT;simp only;rw[if_pos U];exact c
   cases m with
   | inl s=>rw[Bh hb];exact h2
   | inr r=>rw[AV (m:=some r) hb,h2]
  ·rw[Sp U];refine AV (m:=some (L++fin [] at' at')) ?_;unfold CT;simp only;rw[if_neg U];unfold fin;rw[if_pos Z,QzZ]
theorem Vo{a:Qq4}(hs:a.length<=1000000000000):TP a=some (Ty a):=by
 have:=(Aim hs (a.length+1) 0 [] U Qqd U).1;rw[Qxe]at this;exact this
theorem Aek{a:Qq4}(hs:a.length<=1000000000000):N8 a=some (decide ((Ty a).map Qzz=[a])):=by
 unfold N8;rw[Ac U,Vo hs,Qzq];generalize Ty a=l
 match l with
 | []=>rw[if_neg Qqd];simp
 | [x]=>rw[if_pos (show(([x].length:Nat):Int)=1 from Z),Ac Qqd];simp
 | x::y::z=>rw[if_neg (by simp;omega)];simp
end Go.Proofs.YtopocbcekabkoaaGreatDoor
end
noncomputable section
namespace Go.Proofs.YtopocbcekabkoaaGreatDoor
open Go Go.L
theorem PO(x y z:Int):Ew x y z=some (decide (y<=x/\x<=z)):=Z
theorem Z0{a:Qq4}{i:Nat}(k:Nat){z:Int}(hz:z=((i+k:Nat):Int)):((a.getD z.toNat Qq2).toNat:Int)=((bt (a.drop i) k:Nat):Int):=by
 subst hz;rw[Aik,Qzk]
 rfl
theorem NN{a:Qq4}(hs:a.length<=1000000000000)(i k:Nat)(n:Nat)(p:Nat)(hp:p<=1000000000)(hk:k<n)(_h4:n<=4)(hlen:i+n<=a.length):
  IC a (i:Int) (n:Int) ((p:Int),(k:Int))=if cont (a.drop i) k then some (.inl (((p * 64+(bt (a.drop i) k - 128):Nat):Int),((k+1:Nat):Int)))else some (.inr 0):=by
 unfold IC;have hb:bt (a.drop i) k<256:=Qkb _;have hg:=Z0 (a:=a) (i:=i) k (z:=(i:Int)+(k:Int)) U;simp only;rw[if_pos U,Ac (by constructor <;> omega),Ac ⟨by omega,by omega⟩,hg,PO,Qzq]
 have hc:cont (a.drop i) k=decide ((128:Int)<=((bt (a.drop i) k:Nat):Int)/\((bt (a.drop i) k:Nat):Int)<=191):=by
  unfold cont;rw[Qz4]
  congr 1
  apply propext
  constructor
  ·rintro⟨_,h2,h3⟩;exact⟨by omega,by omega⟩
  ·rintro⟨h2,h3⟩;exact⟨by omega,by omega,by omega⟩
 rw[hc]
 by_cases h:(128:Int)<=((bt (a.drop i) k:Nat):Int)/\((bt (a.drop i) k:Nat):Int)<=191
 ·rw[decide_eq_true h,if_neg Qqc,if_pos Z,Ac (by constructor <;> omega),Ac (by constructor <;> omega),Ac (by constructor <;> omega),Ac (by constructor <;> omega)]
  congr 3
  ·omega
 ·rw[decide_eq_false h,if_pos Qqc,if_neg Qqc]
  rfl
theorem UK{a:Qq4}{i:Nat}(n:Nat)(p:Nat):IC a (i:Int) (n:Int) ((p:Int),(n:Int))=(JT (n:Int) (p:Int)).map Sum.inr:=by
 unfold IC;simp only;rw[if_neg U]
theorem size_eq{a:Qq4}(hs:a.length<=1000000000000){i:Nat}(hi:i<a.length):Sj a (i:Int)=some ((QO (a.drop i):Nat):Int):=by
 have o:bt (a.drop i) 0<256:=Qkb _;have hg:=Z0 (a:=a) (i:=i) 0 (z:=(i:Int)) U;have k3z:∀s,Hf a (i:Int) 0 s=some 0:=fun s=>by unfold Hf;rw[if_pos Z]
 -- the loop for n bytes
 have hc:∀k,cont (a.drop i) k=true->i+k<a.length:=fun k h=>by
  have:=(of_decide_eq_true h).1;rw[Qz4]at this;omega
 unfold Sj;rw[Ac ⟨by omega,by omega⟩,hg,PO,Qzq];unfold QO
 by_cases hA:194<=bt (a.drop i) 0/\bt (a.drop i) 0<=223
 ·rw[decide_eq_true ⟨by omega,by omega⟩,if_pos Z,Ac (by constructor <;> omega),if_pos hA];unfold L4 JU Hf;rw[hg,PO,Qzq,decide_eq_false U,if_neg Qqc,PO,Qzq,decide_eq_false U,if_neg Qqc,if_neg Qqc,Ac (by constructor <;> omega)]
  by_cases h2:i+2<=a.length
  ·rw[if_neg U];have e:((bt (a.drop i) 0:Nat):Int) - 192=((bt (a.drop i) 0 - 192:Nat):Int):=by omega
   rw[e];unfold ND;have s1:=NN hs i 1 2 (bt (a.drop i) 0 - 192) U Qqc Qqc h2
   by_cases c1:cont (a.drop i) 1=true
   ·rw[if_pos c1]at s1 ⊢;refine(Bh s1).trans (AV (m:=some 2) ((UK 2 _).trans ?_));unfold JT;rw[if_neg Qqc,if_neg Qqc]
    rfl
   ·rw[if_neg c1]at s1 ⊢;exact AV (m:=some 0) s1
  ·rw[if_pos U,if_neg (fun h=>by have:=hc 1 h;omega)]
   rfl
 rw[decide_eq_false U,if_neg Qqc,if_neg hA];unfold L4;rw[hg,PO,Qzq]
 by_cases hB:224<=bt (a.drop i) 0/\bt (a.drop i) 0<=239
 ·rw[decide_eq_true ⟨by omega,by omega⟩,if_pos Z,Ac (by constructor <;> omega),if_pos hB];unfold JU Hf;rw[hg,PO,Qzq,decide_eq_false U,if_neg Qqc,if_neg Qqc,Ac (by constructor <;> omega)]
  by_cases h2:i+3<=a.length
  ·rw[if_neg U];have e:((bt (a.drop i) 0:Nat):Int) - 224=((bt (a.drop i) 0 - 224:Nat):Int):=by omega
   rw[e];unfold ND;have g:bt (a.drop i) 1<256:=Qkb _;have j:bt (a.drop i) 2<256:=Qkb _;have s1:=NN hs i 1 3 (bt (a.drop i) 0 - 224) U Qqc Qqc h2;have b:=NN hs i 2 3 ((bt (a.drop i) 0 - 224) * 64+(bt (a.drop i) 1 - 128)) U Qqc Qqc h2
   by_cases c1:cont (a.drop i) 1=true
   ·rw[if_pos c1]at s1;refine(Bh s1).trans ?_
    by_cases c2:cont (a.drop i) 2=true
    ·rw[if_pos c2]at b;refine(Bh b).trans (AV (m:=some _) ((UK 3 _).trans (congrArg _ ?_)));have f:((bt (a.drop i) 0 - 224) * 64+(bt (a.drop i) 1 - 128)) * 64+(bt (a.drop i) 2 - 128)=pt3 (a.drop i):=Z;rw[f];unfold JT;rw[if_pos Qqc]
     by_cases c:2048<=pt3 (a.drop i)
     ·rw[if_neg U,PO,Qzq]
      by_cases l:55296<=pt3 (a.drop i)/\pt3 (a.drop i)<=57343
      ·rw[decide_eq_true ⟨by omega,by omega⟩,if_pos Z,if_neg (fun h=>h.2.2.2 l)];rfl
      ·rw[decide_eq_false U,if_neg Qqc,if_neg Qqc,if_pos ⟨c1,c2,c,l⟩]
     ·rw[if_pos U,if_neg (fun h=>c h.2.2.1)];rfl
    ·rw[if_neg c2]at b;rw[if_neg (fun h=>c2 h.2.1)];exact AV (m:=some 0) b
   ·rw[if_neg c1]at s1;rw[if_neg (fun h=>c1 h.1)];exact AV (m:=some 0) s1
  ·rw[if_pos U,if_neg (fun h=>by have:=hc 2 h.2.1;omega)]
   rfl
 rw[decide_eq_false U,if_neg Qqc,if_neg hB];unfold JU;rw[hg,PO,Qzq]
 by_cases hC:240<=bt (a.drop i) 0/\bt (a.drop i) 0<=244
 ·rw[decide_eq_true ⟨by omega,by omega⟩,if_pos Z,Ac (by constructor <;> omega),if_pos hC];unfold Hf;rw[if_neg Qqc,Ac (by constructor <;> omega)]
  by_cases h2:i+4<=a.length
  ·rw[if_neg U];have e:((bt (a.drop i) 0:Nat):Int) - 240=((bt (a.drop i) 0 - 240:Nat):Int):=by omega
   rw[e];unfold ND;have g:bt (a.drop i) 1<256:=Qkb _;have j:bt (a.drop i) 2<256:=Qkb _;have p:bt (a.drop i) 3<256:=Qkb _;have s1:=NN hs i 1 4 (bt (a.drop i) 0 - 240) U Qqc Qqc h2;have b:=NN hs i 2 4 ((bt (a.drop i) 0 - 240) * 64+(bt (a.drop i) 1 - 128)) U Qqc Qqc h2;have d:=NN hs i 3 4 (((bt (a.drop i) 0 - 240) * 64+(bt (a.drop i) 1 - 128)) * 64+(bt (a.drop i) 2 - 128)) U Qqc Qqc h2
   by_cases c1:cont (a.drop i) 1=true
   ·rw[if_pos c1]at s1;refine(Bh s1).trans ?_
    by_cases c2:cont (a.drop i) 2=true
    ·rw[if_pos c2]at b;refine(Bh b).trans ?_
     by_cases c3:cont (a.drop i) 3=true
     ·rw[if_pos c3]at d;refine(Bh d).trans (AV (m:=some _) ((UK 4 _).trans (congrArg _ ?_)));have f:(((bt (a.drop i) 0 - 240) * 64+(bt (a.drop i) 1 - 128)) * 64+(bt (a.drop i) 2 - 128)) * 64+(bt (a.drop i) 3 - 128)=pt4 (a.drop i):=Z;rw[f];unfold JT;rw[if_neg Qqc,if_pos Qqc,PO,Qzq]
      by_cases c:65536<=pt4 (a.drop i)/\pt4 (a.drop i)<=1114111
      ·rw[decide_eq_true ⟨by omega,by omega⟩,if_neg Qqc,if_pos ⟨c1,c2,c3,c⟩]
      ·rw[decide_eq_false U,if_pos Qqc,if_neg (fun h=>c h.2.2.2)];rfl
     ·rw[if_neg c3]at d;rw[if_neg (fun h=>c3 h.2.2.1)];exact AV (m:=some 0) d
    ·rw[if_neg c2]at b;rw[if_neg (fun h=>c2 h.2.1)];exact AV (m:=some 0) b
   ·rw[if_neg c1]at s1;rw[if_neg (fun h=>c1 h.1)];exact AV (m:=some 0) s1
  ·rw[if_pos U,if_neg (fun h=>by have:=hc 3 h.2.2.1;omega)]
   rfl
 rw[decide_eq_false U,if_neg Qqc,if_neg hC,k3z]
 rfl
theorem Aca{a:Qq4}(hs:a.length<=1000000000000){i:Nat}(hi:i<a.length):MR a (i:Int)=some ((M7 (a.drop i):Nat):Int):=by
 have hg:=Z0 (a:=a) (i:=i) 0 (z:=(i:Int)) U;unfold MR;rw[Ac ⟨by omega,by omega⟩,hg,PO,Qzq];unfold M7 asc
 by_cases b:48<=bt (a.drop i) 0/\bt (a.drop i) 0<=57
 ·rw[decide_eq_true ⟨by omega,by omega⟩,if_pos Z,if_pos (decide_eq_true (.inl b))];rfl
 rw[decide_eq_false U,if_neg Qqc,PO,Qzq]
 by_cases h2:97<=bt (a.drop i) 0/\bt (a.drop i) 0<=122
 ·rw[decide_eq_true ⟨by omega,by omega⟩,if_pos Z,if_pos (decide_eq_true (.inr (.inl h2)))];rfl
 rw[decide_eq_false U,if_neg Qqc,PO,Qzq]
 by_cases h3:65<=bt (a.drop i) 0/\bt (a.drop i) 0<=90
 ·rw[decide_eq_true ⟨by omega,by omega⟩,if_pos Z,if_pos (decide_eq_true (.inr (.inr h3)))];rfl
 rw[decide_eq_false U,if_neg Qqc,size_eq hs hi,Qzq,if_neg (fun h=>by have:=of_decide_eq_true h;omega)]
end Go.Proofs.YtopocbcekabkoaaGreatDoor
namespace Go.Proofs.YtopocbcekabkoaaGreatDoor
open Go Go.L
theorem AfY{a:Qq4}{e j:Nat}(h:e+j<a.length):((a.drop e).take (j+1)).map I1=((a.drop e).take j).map I1++[I1 (a.getD (e+j) Qq2)]:=by
 have b:(a.drop e)[j]? = some (a.getD (e+j) Qq2):=by
  rw[QxZ,Qzj,Qzy h]
  rfl
 rw[Qx7,b,Qxc]
 rfl
theorem AfZ{a:Qq4}(hs:a.length<=1000000000000){e n:Nat}(h:e+n<=a.length)(low:Qq4)(hl:low.length<=e):
  Pj a (e:Int) (n:Int) (low,(e:Int))=some (.inl (low++((a.drop e).take n).map I1,((e+n:Nat):Int))):=by
 unfold Pj
 have key:=BR (b:=JA a (e:Int) (n:Int)) (m:=some (.inl (low++((a.drop e).take n).map I1,((e+n:Nat):Int)))) (fun j=>(low++((a.drop e).take j).map I1,((e+j:Nat):Int))) n (fun j hj=>by
  unfold JA;simp only;rw[Ac (by constructor <;> omega),if_pos U,Ac ⟨by omega,by omega⟩,Qzk]
  have hlen:(low++((a.drop e).take j).map I1).length+[I1 (a.getD (e+j) Qq2)].length<=2000000000002:=by
   rw[Qzd,Qza,QzC,Qz4,Qxv];omega
  have hk:K0 (low++((a.drop e).take j).map I1) ((e+j:Nat):Int) (I1 (a.getD (e+j) Qq2))=some (.inl (low++((a.drop e).take (j+1)).map I1,((e+(j+1):Nat):Int))):=by
   unfold K0;rw[Ac (by constructor <;> omega),Ac (by constructor <;> omega),AfY U,QxB]
   congr 3
  rw[<- hk];unfold I1
  split
  ·rfl
  ·rfl) (by
  unfold JA Ph;simp only;rw[Ac (by constructor <;> omega),if_neg U,Ac (by constructor <;> omega)]
  congr 3) 0 (hi:=(by omega))
 simp only[List.take_zero,Qk1,QzZ,Qxf]at key;exact key
theorem Z1{a:Qq4}{at':Nat}(h:a.length<=at')(L:List W):run (DJ a) (L,(at':Int))=some L:=by
 refine AV (m:=some L) ?_;unfold DJ Pk;simp only;rw[if_neg U]
theorem Aga{a:Qq4}(hs:a.length<=1000000000000)(L:List W){fr at':Nat}(hL:L.length<=at')(ha:at'<=a.length)(cur:Qq4)(hfr:fr<=at')(hc:cur=[]↔fr=at'):
  K1 L (fr:Int) cur (at':Int)=some (.inl (L++fin cur fr at',((at'+1:Nat):Int))):=by
 unfold K1 fin
 by_cases h:fr=at'
 ·rw[if_neg U,Ac (by constructor <;> omega),if_pos (hc.2 h),QzZ]
  congr 3
 ·rw[if_pos U,Ac (by rw[Qxv];constructor <;> omega),Ac (by constructor <;> omega),if_neg (fun e=>h (hc.1 e))]
  congr 3
theorem Ain{a:Qq4}(hs:a.length<=1000000000000):∀(f at':Nat) (L:List W),a.length<=at'+f->L.length<=at'->at'<=a.length+1->
  run (DJ a) (L,(at':Int))=some (L++VW a f at' [] at')/\
  ∀
   (cur:Qq4) (fr:Nat),at'<=a.length->fr<=at'->cur.length<=at'->(cur=[]↔fr=at')->∃s,run (Fv a L (fr:Int)) (cur,(at':Int))=some (.inl s)/\
   run (DJ a) s=some (L++VW a f at' cur fr):=by
 have E:∀(f at':Nat) (L:List W),a.length<=at'->L.length<=at'->∀(cur:Qq4) (fr:Nat),at'<=a.length->fr<=at'->(cur=[]↔fr=at')->∃s,run (Fv a L (fr:Int)) (cur,(at':Int))=some (.inl s)/\
   run (DJ a) s=some (L++VW a f at' cur fr):=by
  intro f at' L h hL cur fr hle hfr hc;refine⟨(L++fin cur fr at',((at'+1:Nat):Int)),?_,?_⟩
  ·refine AV (m:=some (Sum.inl (L++fin cur fr at',((at'+1:Nat):Int)):WS)) ?_;unfold Fv;simp only;rw[if_neg U,Aga hs L hL hle cur hfr hc]
  ·rw[Z1 U,Sp h]
 intro f
 induction f with
 | zero=>
  intro at' L hf hL ha
  constructor
  ·rw[Z1 U,Sp U];unfold fin;rw[if_pos Z,QzZ]
  ·intro cur fr hle hfr _ hc;exact E 0 at' L U hL cur fr hle hfr hc
 | succ f ih=>
  intro at' L hf hL ha
  have B:∀(cur:Qq4) (fr:Nat),at'<=a.length->fr<=at'->cur.length<=at'->(cur=[]↔fr=at')->∃s,run (Fv a L (fr:Int)) (cur,(at':Int))=some (.inl s)/\
   run (DJ a) s=some (L++VW a (f+1) at' cur fr):=by
   intro cur fr hle hfr hcl hc
   by_cases h:at'<a.length
   ·have hroom:=RW h;have hlow:=Zz h;have hl:=Aca hs h;unfold VW;rw[if_pos h]
    by_cases c:M7 (a.drop at')=0
    ·rw[if_pos c];refine⟨(L++fin cur fr at',((at'+1:Nat):Int)),?_,?_⟩
     ·refine AV (m:=some (Sum.inl (L++fin cur fr at',((at'+1:Nat):Int)):WS)) ?_;unfold Fv;simp only;rw[if_pos U,hl,Qzq,if_neg U,Aga hs L hL hle cur hfr hc]
     ·have b:=(ih (at'+1) (L++fin cur fr at') U (by rw[Qzd];have:=Zy cur fr at';omega) U).1;rw[b,QxB]
    ·rw[if_neg c];have hne:((a.drop at').take (M7 (a.drop at'))).map I1≠[]:=fun e=>by rw[e,QzB]at hlow;omega
     obtain⟨s,b,h2⟩:=(ih (at'+M7 (a.drop at')) L U U U).2 (cur++((a.drop at').take (M7 (a.drop at'))).map I1) fr hroom U (by rw[Qzd,hlow];omega) ⟨fun e=>absurd (List.append_eq_nil_iff.1 e).2 hne,fun e=>by omega⟩;refine⟨s,?_,h2⟩;rw[<- b];refine Bh ?_;unfold Fv;simp only;rw[if_pos U,hl,Qzq,if_pos U,Qzq,AfZ hs hroom cur hcl]
   ·exact E (f+1) at' L U hL cur fr hle hfr hc
  refine⟨?_,B⟩
  by_cases h:at'<a.length
  ·obtain⟨s,b,h2⟩:=B [] at' U U Qqd ⟨fun _=>Z,fun _=>Z⟩
   have hb:DJ a (L,(at':Int))=some (.inl s):=by
    unfold DJ;simp only;rw[if_pos U];exact b
   rw[Bh hb];exact h2
  ·rw[Z1 U,Sp U];unfold fin;rw[if_pos Z,QzZ]
theorem Y0{a:Qq4}(hs:a.length<=1000000000000):Qw a=some (Ty a):=by
 have:=(Ain hs (a.length+1) 0 [] U Qqd U).1;rw[Qxe]at this;exact this
def wf(a:Qq4):Int×Int:=if 64<a.length then(3,-1)else if(Ty a).map Qzz=[a]then(0,0)else(6,-1)
theorem Ou(a:Qq4):HL a=some (wf a):=by
 unfold HL wf
 by_cases h:64<a.length
 ·rw[if_pos U,if_pos h];rfl
 ·rw[if_neg U,if_neg h,Aek U,Qzq]
  by_cases b:(Ty a).map Qzz=[a]
  ·rw[decide_eq_true b,if_neg Qqc,if_pos b]
  ·rw[decide_eq_false b,if_pos Qqc,if_neg b];rfl
theorem Z2(a:Qq4):L5 a=some (wf a):=by
 unfold L5 wf
 by_cases h:64<a.length
 ·rw[if_pos U,if_pos h];rfl
 ·rw[if_neg U,if_neg h,Ac U,Y0 U,Qzq];generalize Ty a=l
  match l with
  | []=>rw[if_neg Qqd,if_neg Qqd];rfl
  | [x]=>
   rw[if_pos (show(([x].length:Nat):Int)=1 from Z),Ac Qqd]
   show(if x.1=a then _ else _)=_
   by_cases b:x.1=a
   ·rw[if_pos b,if_pos (by simp[b])]
   ·rw[if_neg b,if_neg (by simp[b])];rfl
  | x::y::z=>rw[if_neg (by simp;omega),if_neg Qqd];rfl
theorem To{a:Qq4}:∀(f at':Nat) (cur:Qq4) (fr:Nat),at'<=a.length->(VW a f at' cur fr).length+at'<=a.length+1
 | 0,at',cur,fr,h=>by unfold VW;have:=Zy cur fr at';omega
 | f+1,at',cur,fr,h=>by
  unfold VW;have:=Zy cur fr at'
  split
  ·rename_i b
   split
   ·rw[Qzd];have:=To (a:=a) f (at'+1) [] (at'+1) U;omega
   ·have:=To (a:=a) f (at'+M7 (a.drop at')) (cur++((a.drop at').take (M7 (a.drop at'))).map I1) fr (RW b);omega
  ·omega
theorem VY(a:Qq4):(Ty a).length<=a.length+1:=To (a:=a) (a.length+1) 0 [] 0 (Qz5 _)
theorem Agb{a:Qq4}(hs:a.length<=2048):Lb a=some (Ty a,(0,0)):=by
 unfold Lb;rw[if_neg U,Vo U]
 rfl
theorem Acb{a:Qq4}(hs:2048<a.length):Lb a=some ([],(3,-1)):=by
 unfold Lb;rw[if_pos U]
 rfl
end Go.Proofs.YtopocbcekabkoaaGreatDoor
end
noncomputable section
namespace Go.L
open Go Go.Proofs.YtopocbcekabkoaaGreatDoor
abbrev JD:=Int×Int
abbrev HM:=List (Qq4×List JD)
section
variable {κ β:Type} [DecidableEq κ]
theorem Xl(d:β)(k k':κ)(y:β):∀M:List (κ×β),BF d k' (Dm k y M)=if k'=k then y else BF d k' M
 | []=>by
  unfold Dm BF
  by_cases h:k'=k
  ·rw[if_pos h,if_pos h]
  ·rw[if_neg h,if_neg h];rfl
 | (a,z)::l=>by
  unfold Dm
  by_cases h:k=a
  ·rw[if_pos h];subst h
   by_cases b:k'=k
   ·simp only[BF];rw[if_pos b,if_pos b]
   ·simp only[BF];rw[if_neg b,if_neg b,if_neg b]
  ·rw[if_neg h];simp only[BF];rw[Xl d k k' y l]
   by_cases b:k'=a
   ·rw[if_pos b,if_pos b,if_neg (fun e=>h (e.symm.trans b))]
   ·rw[if_neg b,if_neg b]
theorem UL(k:κ)(y:β):∀M:List (κ×β),(Dm k y M).map Qzz=if k∈M.map Qzz then M.map Qzz else M.map Qzz++[k]
 | []=>by simp[Dm]
 | (a,z)::l=>by
  unfold Dm
  by_cases h:k=a
  ·rw[if_pos h];simp[h]
  ·rw[if_neg h,QzA,UL k y l,QzA]
   by_cases b:k∈l.map Qzz
   ·rw[if_pos b,if_pos (Qz1 _ b)]
   ·rw[if_neg b,if_neg (by simp only[Qze,not_or];exact⟨h,b⟩)]
    rfl
theorem UM(d:β)(k:κ):∀M:List (κ×β),k∉M.map Qzz->BF d k M=d
 | [],_=>rfl
 | (a,z)::l,h=>by
  simp only[QzA,Qze,not_or]at h;unfold BF;rw[if_neg h.1];exact UM d k l h.2
end
def Nq(M:HM)(p:Qq4×JD):HM:=Dm p.1 (BF [] p.1 M++[p.2]) M
def Gf(P:List (Qq4×JD))(w:Qq4):List JD:=(P.filter fun p=>p.1=w).map QzX
theorem add_get(w:Qq4):∀(P:List (Qq4×JD)) (M:HM),BF [] w (P.foldl Nq M)=BF [] w M++Gf P w
 | [],M=>by simp[Gf]
 | p::P,M=>by
  rw[List.foldl_cons,add_get w P];unfold Nq;rw[Xl];unfold Gf
  by_cases h:w=p.1
  ·subst h;simp
  ·rw[if_neg h];rw[List.filter_cons_of_neg (by simpa using fun e=>h e.symm)]
theorem Xm:∀(P:List (Qq4×JD)) (M:HM) (k:Qq4),k∈(P.foldl Nq M).map Qzz↔k∈M.map Qzz\/k∈P.map Qzz
 | [],M,k=>by simp
 | p::P,M,k=>by
  rw[List.foldl_cons,Xm P];unfold Nq;rw[UL]
  by_cases h:p.1∈M.map Qzz
  ·rw[if_pos h,QzA,Qze]
   constructor
   ·rintro(a | a)
    ·exact .inl a
    ·exact .inr (.inr a)
   ·rintro(a | a | a)
    ·exact .inl a
    ·exact .inl (a ▸ h)
    ·exact .inr a
  ·rw[if_neg h,QzA,Qze,QzK,QzD]
   constructor
   ·rintro((a | a) | a)
    ·exact .inl a
    ·exact .inr (.inl a)
    ·exact .inr (.inr a)
   ·rintro(a | a | a)
    ·exact .inl (.inl a)
    ·exact .inl (.inr a)
    ·exact .inr a
theorem UN:∀(P:List (Qq4×JD)) (M:HM),(M.map Qzz).Nodup->((P.foldl Nq M).map Qzz).Nodup
 | [],_,h=>h
 | p::P,M,h=>by
  rw[List.foldl_cons];refine UN P _ ?_;unfold Nq;rw[UL]
  by_cases c:p.1∈M.map Qzz
  ·rw[if_pos c];exact h
  ·rw[if_neg c];refine List.nodup_append.2 ⟨h,by simp,fun a ha b hb e=>?_⟩;rw[QzD]at hb;exact c (hb ▸ e ▸ ha)
theorem Ov(P:List (Qq4×JD))(w:Qq4):(Gf P w).length<=P.length:=by
 unfold Gf;rw[Qza];exact Qx0 _ _
def FE(i:Int)(l:List W):List (Qq4×JD):=(l.zipIdx).map fun x=>(x.1.1,(i,((x.2:Nat):Int)))
theorem MW(i:Int)(l:List W):(FE i l).length=l.length:=by unfold FE;rw[Qza,List.length_zipIdx]
theorem Vp(i:Int)(l:List W)(k:Nat)(hk:k<l.length):(FE i l)[k]? = some ((l.getD k Qq2).1,(i,(k:Int))):=by
 unfold FE;rw[Qxq,List.getElem?_zipIdx,Qzy hk,Qzj,Qzy hk];simp
theorem Z3(i:Int)(l:List W)(k:Nat)(hk:k<l.length)(M:HM):((FE i l).take (k+1)).foldl Nq M=Nq (((FE i l).take k).foldl Nq M) ((l.getD k Qq2).1,(i,(k:Int))):=by
 rw[Qx7,Vp i l k hk,List.foldl_append]
 rfl
def CJ:Nat->Qq8->List (Qq4×JD)
 | _,[]=>[]
 | i,t::r=>FE (i:Int) (Ty t)++CJ (i+1) r
theorem Y1:∀(i:Nat) (r:Qq8),(∀t∈r,t.length<=2048)->(CJ i r).length<=r.length * 2049
 | _,[],_=>by simp[CJ]
 | i,t::r,h=>by
  unfold CJ;rw[Qzd,MW,Qzc];have a:=VY t;have h2:=Y1 (i+1) r (fun x hx=>h x (Qz1 _ hx));have h3:=h t (Qz2 ..);omega
end Go.L
namespace Go.L
def NJ:Nat->Qq8->Option Nat
 | _,[]=>none
 | i,t::r=>if 2048<t.length then some i else NJ (i+1) r
end Go.L
namespace Go.Proofs.YtopocbcekabkoaaGreatDoor
open Go Go.L
theorem Agc(i:Nat)(l:List W)(M:HM)(hl:l.length<=3000)(hi:i<=100)(hM:∀w,(BF [] w M).length<=1000000):
  Oj (i:Int) (l,(0,0)) (M,0)=some (.inl ((FE (i:Int) l).foldl Nq M,((i+1:Nat):Int))):=by
 unfold Oj
 have key:=BR (b:=I7 (i:Int) (l,(0,0))) (m:=some (.inl ((FE (i:Int) l).foldl Nq M,((i+1:Nat):Int)))) (fun k=>(((FE (i:Int) l).take k).foldl Nq M,((k:Nat):Int))) l.length (fun k hk=>by
  unfold I7;simp only
  have a:(BF [] (l.getD k Qq2).1 (((FE (i:Int) l).take k).foldl Nq M)).length<=1003000:=by
   rw[add_get,Qzd];have h2:=Ov ((FE (i:Int) l).take k) (l.getD k Qq2).1;rw[QzC,MW]at h2;have h3:=hM (l.getD k Qq2).1;omega
  rw[if_pos U,Ac ⟨by omega,by omega⟩,Qzk,Ac (by constructor <;> omega),Ac (by constructor <;> omega),Z3 (i:Int) l k hk M]
  rfl) (by
  unfold I7 Oi;simp only;rw[if_neg U,Ac (by constructor <;> omega),Qxb (by rw[MW];exact Qzu _)]
  congr 3) 0 (hi:=(by omega))
 exact key
theorem Y2(items:Qq8)(hn:items.length<=64):∀(r:Qq8) (i:Nat) (M:HM),items.drop i=r->i<=items.length->(∀w,(BF [] w M).length<=i * 3000)->
  run (FK items) (M,(i:Int))=match NJ i r with | some j=>some ((0,[]),(3,(j:Int))) | none=>J5 items ((CJ i r).foldl Nq M)
 | [],i,M,hd,hi,hM=>by
  have hlen:=congrArg QxK hd;rw[Qz4,QzB]at hlen;unfold NJ CJ;refine AV ?_;unfold FK;simp only;rw[if_neg U]
  rfl
 | t::r,i,M,hd,hi,hM=>by
  have hlen:=congrArg QxK hd;rw[Qz4,Qzc]at hlen
  have hg:items.getD i Qq2=t:=by
   have:=congrArg (·[0]?) hd;simp only[QxZ,QkJ,Qxf]at this;rw[Qzj,this]
   rfl
  have hd':items.drop (i+1)=r:=by rw[<- Qkc,hd];rfl
  unfold NJ
  by_cases h:2048<t.length
  ·rw[if_pos h];refine AV ?_;unfold FK;simp only;rw[if_pos U,Ac ⟨by omega,by omega⟩,Qzk,hg,Acb h,Qzq,if_neg Qqd]
   rfl
  ·rw[if_neg h];have hw:=VY t
   have hb:FK items (M,(i:Int))=some (.inl ((FE (i:Int) (Ty t)).foldl Nq M,((i+1:Nat):Int))):=by
    unfold FK;simp only;rw[if_pos U,Ac ⟨by omega,by omega⟩,Qzk,hg,Agb U,Qzq,if_pos ⟨Z,Z⟩];exact Agc i (Ty t) M U U (fun w=>by have:=hM w;omega)
   rw[Bh hb,Y2 items hn r (i+1) _ hd' U (fun w=>by
    rw[add_get,Qzd];have a:=Ov (FE (i:Int) (Ty t)) w;rw[MW]at a;have h2:=hM w;omega)]
   have e:(CJ i (t::r)).foldl Nq M=(CJ (i+1) r).foldl Nq ((FE (i:Int) (Ty t)).foldl Nq M):=by
    rw[CJ,List.foldl_append]
   rw[e]
theorem Ael(items:Qq8):J6 items=if 64<items.length then some ((0,[]),(2,-1))else match NJ 0 items with | some j=>some ((0,[]),(3,(j:Int))) | none=>J5 items ((CJ 0 items).foldl Nq []):=by
 unfold J6
 by_cases h:64<items.length
 ·rw[if_pos U,if_pos h]
  rfl
 ·rw[if_neg U,if_neg h];exact Y2 items U items 0 [] Z U (fun w=>by simp[BF])
end Go.Proofs.YtopocbcekabkoaaGreatDoor
end
noncomputable section
namespace Go.L
open Go Go.Proofs.YtopocbcekabkoaaGreatDoor
theorem Xn{cur:Qq4}{fr at' n:Nat}(h:cur.length<=n):∀w∈fin cur fr at',w.1.length<=n:=by
 intro w hw;unfold fin at hw
 split at hw
 ·cases hw
 ·rw[QzD.1 hw];exact h
theorem Xo{a:Qq4}:∀(f at':Nat) (cur:Qq4) (fr:Nat),at'<=a.length->cur.length<=at'->∀w∈VW a f at' cur fr,w.1.length<=a.length
 | 0,at',cur,fr,h,hc=>Xn U
 | f+1,at',cur,fr,h,hc=>by
  intro w hw;unfold VW at hw
  split at hw
  ·rename_i b
   split at hw
   ·rcases QzK.1 hw with hw | hw
    ·exact Xn U w hw
    ·exact Xo f (at'+1) [] (at'+1) U Qqd w hw
   ·exact Xo f _ _ fr (RW b) (by rw[Qzd,Zz b];omega) w hw
  ·exact Xn U w hw
theorem AaL(a:Qq4):∀w∈Ty a,w.1.length<=a.length:=Xo _ 0 [] 0 (Qz5 _) (Qzu _)
theorem Xp:∀(i:Nat) (r:Qq8),(∀t∈r,t.length<=2048)->∀k∈(CJ i r).map Qzz,k.length<=2048
 | _,[],_,k,hk=>by cases hk
 | i,t::r,h,k,hk=>by
  unfold CJ at hk;rw[Qxc]at hk
  rcases QzK.1 hk with hk | hk
  ·obtain⟨x,hx,rfl⟩:=Qz0.1 hk;unfold FE at hx;obtain⟨y,hy,rfl⟩:=Qz0.1 hx
   have a:y.1∈Ty t:=by
    have:=List.mem_zipIdx' hy;rw[this.2];exact Qz3 _
   exact Qxy (AaL t y.1 a) (h t (Qz2 ..))
  ·exact Xp (i+1) r (fun x hx=>h x (Qz1 _ hx)) k hk
def S9(M:HM):HM:=((M.map Qzz).mergeSort leB).map fun k=>(k,BF [] k M)
theorem AaM(M:HM):(S9 M).length=M.length:=by unfold S9;rw[Qza,List.length_mergeSort,Qza]
end Go.L
namespace Go.Proofs.YtopocbcekabkoaaGreatDoor
open Go Go.L
theorem Acd(n:Int)(M:HM)(hf:Zl M)(hm:M.length<=1000000):ON n M=J4 n (S9 M):=by
 unfold ON Ti;rw[Ac hf,Qzq];unfold RG;have hl:((M.map Qzz).mergeSort leB).length=M.length:=by rw[List.length_mergeSort,Qza]
 have key:=BR (b:=I6 n M ((M.map Qzz).mergeSort leB)) (m:=J4 n (S9 M)) (fun k=>((S9 M).take k,((k:Nat):Int))) M.length (fun k hk=>by
  unfold I6;simp only
  have a:(S9 M).take (k+1)=(S9 M).take k++[(((M.map Qzz).mergeSort leB).getD k Qq2,BF [] (((M.map Qzz).mergeSort leB).getD k Qq2) M)]:=by
   rw[Qx7]
   congr 1
   unfold S9;rw[Qxq,Qzj,Qzy U]
   rfl
  have h2:((S9 M).take k).length<=1000000:=by rw[QzC];omega
  rw[if_pos U,Ac ⟨by omega,by omega⟩,Qzk,Ac (by rw[Qxv];constructor <;> omega),Ac (by constructor <;> omega),a]
  rfl) (by
  unfold I6;simp only;rw[if_neg U,Qxb (by rw[AaM];exact Qzu _)]) 0 (hi:=(by omega))
 exact key
end Go.Proofs.YtopocbcekabkoaaGreatDoor
namespace Go.L
open Go
def RX(n:Nat):Nat:=if n=0 then 0 else n.log2+1
theorem Z4{n k:Nat}(h:n<2 ^ k):RX n<=k:=by
 unfold RX
 split
 ·omega
 ·rename_i a;have:=(Nat.log2_lt a).2 h;omega
theorem AaN{n k:Nat}(h:2 ^ k<=n):RX n=RX (n / 2 ^ k)+k:=by
 have hp:0<2 ^ k:=Nat.two_pow_pos k;have hn:n≠0:=by omega
 have hm:n / 2 ^ k≠0:=by
  have:=Nat.div_pos h hp;omega
 unfold RX;rw[if_neg hn,if_neg hm]
 have a:n.log2<=(n / 2 ^ k).log2+k:=by
  have h2:n / 2 ^ k<2 ^ ((n / 2 ^ k).log2+1):=Nat.lt_log2_self
  have h3:n<2 ^ ((n / 2 ^ k).log2+1+k):=by
   rw[Nat.pow_add];exact(Nat.div_lt_iff_lt_mul hp).1 h2
  have:=(Nat.log2_lt hn).2 h3;omega
 have h2:(n / 2 ^ k).log2+k<=n.log2:=by
  rw[Nat.le_log2 hn,Nat.pow_add];exact Qxy (QkA _ (Nat.log2_self_le hm)) (Nat.div_mul_le_self n (2 ^ k))
 omega
end Go.L
namespace Go.Proofs.YtopocbcekabkoaaGreatDoor
open Go Go.L
theorem Aly:∀i:Fin 256,EM ((i.val:Nat):Int) 0=some ((RX i.val:Nat):Int):=by decide +kernel
theorem Agd{s:Nat}(hs:s<256){c:Int}(b:0<=c)(d:c<=100):EM (s:Int) c=some (c+((RX s:Nat):Int)):=by
 have h:=Aly ⟨s,hs⟩;have hb:RX s<=8:=Z4 U;simp only at h;unfold EM at h ⊢;obtain⟨a,h⟩:=Gp h;obtain⟨_,h⟩:=Gp h;have hT:=Option.some.inj h;rw[Int.zero_add]at hT;rw[Ac a,hT,Ac (by constructor <;> omega)]
theorem Age{n:Nat}(hn:n<16777216):KB (n:Int)=some ((RX n:Nat):Int):=by
 unfold KB HT HS;rw[if_neg U]
 by_cases a:65536<=n
 ·have e:(n:Int) / 65536=((n / 65536:Nat):Int):=by omega
  rw[if_pos U,Ac (by constructor <;> omega),e,if_neg U,Agd U U U,AaN (n:=n) (k:=16) U]
  congr 1
  show 16+((RX (n / 65536):Nat):Int)=((RX (n / 65536)+16:Nat):Int)
  omega
 ·rw[if_neg U]
  by_cases h2:256<=n
  ·have e:(n:Int) / 256=((n / 256:Nat):Int):=by omega
   rw[if_pos U,Ac (by constructor <;> omega),e,Agd U U U,AaN (n:=n) (k:=8) U]
   congr 1
   show 8+((RX (n / 256):Nat):Int)=((RX (n / 256)+8:Nat):Int)
   omega
  ·rw[if_neg U,Agd U U U,Int.zero_add]
def gzw(n:Nat):Nat:=if n=0 then 0 else 2 * RX n - 1
theorem Agf{n:Nat}(hn:n<16777216):H7 (n:Int)=some ((gzw n:Nat):Int):=by
 unfold H7 gzw OZ
 by_cases h:n=0
 ·rw[if_pos U,if_pos h];rfl
 ·have hb:RX n<=24:=Z4 U;have hp:1<=RX n:=by unfold RX;rw[if_neg h];omega
  have hw:IntKind.u64.wrap (n:Int)=(n:Int):=by simp[IntKind.wrap,IntKind.signed,IntKind.bits];omega
  rw[if_neg U,if_neg h,hw,Age hn,Qzq,Qzq,Ac (by constructor <;> omega),Ac (by constructor <;> omega)]
  congr 1
  omega
theorem Aka{n k:Nat}(h:n<2 ^ k)(_hk:1<=k):gzw n<=2 * k - 1:=by
 unfold gzw;have:=Z4 h
 split <;> omega
end Go.Proofs.YtopocbcekabkoaaGreatDoor
end
noncomputable section
namespace Go.L
open Go Go.Proofs.YtopocbcekabkoaaGreatDoor
section
variable {σ ρ α:Type}
theorem Mq{b:σ->Option (σ⊕ρ)}{s:σ}{m:Option α}{k:α->Option (σ⊕ρ)}{R:α->Option ρ}(h:b s=m.bind k)(hs:∀x,b s=k x->run b s=R x):run b s=m.bind R:=by
 cases m with
 | none=>exact AV (m:=none) h
 | some x=>exact hs x h
theorem bcg{β:Type}{m:Option α}{f g:α->Option β}(h:∀x,f x=g x):m.bind f=m.bind g:=congrArg _ (funext h)
def fm(f:Int->σ->Option σ):Qq5->σ->Option σ
 | [],c=>some c
 | n::r,c=>(f n c).bind (fm f r)
theorem Ace(f:Int->σ->Option σ):∀(l r:Qq5) (c:σ),fm f (l++r) c=(fm f l c).bind (fm f r)
 | [],_,_=>rfl
 | n::l,r,c=>by
  show(f n c).bind (fm f (l++r))=((f n c).bind (fm f l)).bind (fm f r)
  rw[QkK];refine bcg fun x=>Ace f l r x
end
def PQ:JD->List JD->Qq5
 | _,[]=>[]
 | p,h::r=>(if h.1=p.1 then[1,h.2 - p.2]else[1+h.1 - p.1,h.2+1])++PQ h r
def Vr(b:UInt8):Int:=(b.toNat:Int)+1
def Z5(e:Qq4×List JD):Qq5:=(e.1.length:Int)::(e.1.map Vr++((e.2.length:Int)::PQ (0,-1) e.2))
def SO(x:Int×HM):Qq5:=(x.1+1)::((x.2.length:Int)+1)::x.2.flatMap Z5
def HB(h:JD):Prop:=0<=h.1/\h.1<=1000000000/\-1<=h.2/\h.2<=1000000000
def EB(e:Qq4×List JD):Prop:=e.1.length<=1000000000/\e.2.length<=1000000000/\∀h∈e.2,HB h
end Go.L
namespace Go.Proofs.YtopocbcekabkoaaGreatDoor
open Go Go.L
theorem Agg{a:Int×HM}{i:Nat}(hi:i<1000000000){H:List JD}(hH:H.length<=1000000000)(he:(a.2.getD i Qq2).2=H):∀(r:List JD) (j:Nat) (p:JD) (c:Int),H.drop j=r->j<=H.length->HB p->(∀h∈r,HB h)->
  run (Ci a (i:Int)) (p.1,p.2,c,(j:Int))=(fm Bg (PQ p r) c).bind fun c=>some (.inl (c,((i+1:Nat):Int)))
 | [],j,p,c,hd,hj,hp,hr=>by
  have hlen:=congrArg QxK hd;rw[Qz4,QzB]at hlen
  show _=some (Sum.inl (c,((i+1:Nat):Int)))
  refine AV ?_;unfold Ci Ih;simp only;rw[Qzk,he,if_neg U,Ac (by constructor <;> omega)]
  congr 3
 | h::r,j,p,c,hd,hj,hp,hr=>by
  have hlen:=congrArg QxK hd;rw[Qz4,Qzc]at hlen
  have hg:H.getD j Qq2=h:=by
   have:=congrArg (·[0]?) hd;simp only[QxZ,QkJ,Qxf]at this;rw[Qzj,this]
   rfl
  have hd':H.drop (j+1)=r:=by rw[<- Qkc,hd];rfl
  obtain⟨b,h2,h3,d⟩:=hr h (Qz2 ..);obtain⟨e,f,g,k⟩:=hp;have ej:((j:Nat):Int)+1=((j+1:Nat):Int):=by omega
  have ih:=fun c=>Agg hi hH he r (j+1) h c hd' U ⟨b,h2,h3,d⟩ (fun x hx=>hr x (Qz1 _ hx));unfold PQ;rw[Ace,QkK]
  by_cases hs:h.1=p.1
  ·rw[if_pos hs]
   show _=Qq9 (Qq9 (Bg 1 c) (fun x=>Qq9 (Bg (h.2 - p.2) x) some)) _
   rw[QkK]
   have hb:Ci a (i:Int) (p.1,p.2,c,(j:Int))=Qq9 (Bg 1 c) (fun x=>Qq9 (Bg (h.2 - p.2) x) (fun y=>some (.inl (h.1,h.2,y,((j+1:Nat):Int))))):=by
    unfold Ci;simp only;rw[Qzk,he,if_pos U,Ac ⟨by omega,by omega⟩,Qzk,hg,if_pos hs,ej];refine bcg fun x=>?_;rw[Ac (by constructor <;> omega)];refine bcg fun y=>?_;rw[Ac (by constructor <;> omega)]
   refine Mq hb fun x hx=>?_;rw[QkK];refine Mq hx fun y hy=>?_;rw[Bh hy];exact ih y
  ·rw[if_neg hs]
   show _=Qq9 (Qq9 (Bg (1+h.1 - p.1) c) (fun x=>Qq9 (Bg (h.2+1) x) some)) _
   rw[QkK]
   have hb:Ci a (i:Int) (p.1,p.2,c,(j:Int))=Qq9 (Bg (1+h.1 - p.1) c) (fun x=>Qq9 (Bg (h.2+1) x) (fun y=>some (.inl (h.1,h.2,y,((j+1:Nat):Int))))):=by
    unfold Ci;simp only;rw[Qzk,he,if_pos U,Ac ⟨by omega,by omega⟩,Qzk,hg,if_neg hs,Ac (by constructor <;> omega),Ac (by constructor <;> omega),ej];refine bcg fun x=>?_;rw[Ac (by constructor <;> omega)];refine bcg fun y=>?_;rw[Ac (by constructor <;> omega)]
   refine Mq hb fun x hx=>?_;rw[QkK];refine Mq hx fun y hy=>?_;rw[Bh hy];exact ih y
theorem Agh{a:Int×HM}{i:Nat}(hi:i<1000000000){w:Qq4}{H:List JD}(hw:w.length<=1000000000)(hH:H.length<=1000000000)(he:a.2.getD i Qq2=(w,H))(hb:∀h∈H,HB h):∀(r:Qq4) (j:Nat) (c:Int),w.drop j=r->j<=w.length->
  run (CY a (i:Int)) (c,(j:Int))=(fm Bg (r.map Vr++((H.length:Int)::PQ (0,-1) H)) c).bind fun c=>some (.inl (c,((i+1:Nat):Int)))
 | [],j,c,hd,hj=>by
  have hlen:=congrArg QxK hd;rw[Qz4,QzB]at hlen;refine AV ?_;have d:(a.2.getD i Qq2).1=w:=by rw[he]
  have e:(a.2.getD i Qq2).2=H:=by rw[he]
  unfold CY Ii Lv;simp only;rw[Qzk,d,e,if_neg U]
  congr 1
  show _=Qq9 (Qq9 (Bg (H.length:Int) c) (fm Bg (PQ (0,-1) H))) _
  rw[QkK];refine bcg fun x=>Agg hi hH e H 0 (0,-1) x Z (Qz5 _) ⟨by decide,by decide,by decide,by decide⟩ hb
 | b::r,j,c,hd,hj=>by
  have hlen:=congrArg QxK hd;rw[Qz4,Qzc]at hlen
  have hg:w.getD j Qq2=b:=by
   have:=congrArg (·[0]?) hd;simp only[QxZ,QkJ,Qxf]at this;rw[Qzj,this]
   rfl
  have hd':w.drop (j+1)=r:=by rw[<- Qkc,hd];rfl
  have ej:((j:Nat):Int)+1=((j+1:Nat):Int):=by omega
  have d:(a.2.getD i Qq2).1=w:=by rw[he]
  have f:=b.toNat_lt
  show _=Qq9 (Qq9 (Bg (Vr b) c) (fm Bg (r.map Vr++((H.length:Int)::PQ (0,-1) H)))) _
  rw[QkK]
  have hbody:CY a (i:Int) (c,(j:Int))=Qq9 (Bg (Vr b) c) (fun x=>some (.inl (x,((j+1:Nat):Int)))):=by
   unfold CY;simp only;rw[Qzk,d,if_pos U,Ac ⟨by omega,by omega⟩,Qzk,hg,Ac (by constructor <;> omega),ej];refine bcg fun x=>?_;rw[Ac (by constructor <;> omega)]
  refine Mq hbody fun x hx=>?_;rw[Bh hx];exact Agh hi hw hH he hb r (j+1) x hd' U
theorem Agi{a:Int×HM}(hn:a.2.length<1000000000):∀(r:HM) (i:Nat) (c:Int),a.2.drop i=r->i<=a.2.length->(∀e∈r,EB e)->
  run (CZ a) (c,(i:Int))=fm Bg (r.flatMap Z5) c
 | [],i,c,hd,hi,_=>by
  have hlen:=congrArg QxK hd;rw[Qz4,QzB]at hlen;refine AV (m:=some c) ?_;unfold CZ;simp only;rw[if_neg U]
 | e::r,i,c,hd,hi,hE=>by
  have hlen:=congrArg QxK hd;rw[Qz4,Qzc]at hlen
  have hg:a.2.getD i Qq2=e:=by
   have:=congrArg (·[0]?) hd;simp only[QxZ,QkJ,Qxf]at this;rw[Qzj,this]
   rfl
  have hd':a.2.drop (i+1)=r:=by rw[<- Qkc,hd];rfl
  obtain⟨w,H⟩:=e;obtain⟨hw,hH,hB⟩:=hE _ (Qz2 ..);simp only at hw hH hB;rw[QxX,Ace]
  show _=Qq9 (Qq9 (Bg (w.length:Int) c) (fm Bg (w.map Vr++((H.length:Int)::PQ (0,-1) H)))) _
  rw[QkK]
  have hbody:CZ a (c,(i:Int))=Qq9 (Bg (w.length:Int) c) (fun x=>(fm Bg (w.map Vr++((H.length:Int)::PQ (0,-1) H)) x).bind fun c=>some (.inl (c,((i+1:Nat):Int)))):=by
   have b:(a.2.getD i Qq2).1=w:=by rw[hg]
   unfold CZ Lx;simp only;rw[Qzk,b,if_pos U,Ac ⟨by omega,by omega⟩];refine bcg fun x=>?_;rw[Ac U];exact Agh U hw hH hg hB w 0 x Z (Qz5 _)
  refine Mq hbody fun x hx=>Mq hx fun y hy=>?_;rw[Bh hy];exact Agi hn r (i+1) y hd' U (fun z hz=>hE z (Qz1 _ hz))
theorem Akb{a:Int×HM}(b:0<=a.1/\a.1<=1000000000)(hn:a.2.length<1000000000)(hE:∀e∈a.2,EB e)(c:Int):Hs a c=fm Bg (SO a) c:=by
 unfold Hs;rw[Ac (by constructor <;> omega)]
 show _=Qq9 (Bg (a.1+1) c) (fun x=>Qq9 (Bg ((a.2.length:Int)+1) x) (fm Bg (a.2.flatMap Z5)))
 refine bcg fun x=>?_;rw[Ac (by constructor <;> omega)];refine bcg fun y=>?_;unfold Ly;exact Agi hn a.2 0 y Z (Qz5 _) hE
end Go.Proofs.YtopocbcekabkoaaGreatDoor
end
noncomputable section
namespace Go.L
open Go Go.Proofs.YtopocbcekabkoaaGreatDoor
theorem Adk:∀x y:Qq4,Op.bytesLess x y=decide (x<y)
 | [],[]=>by simp[Op.bytesLess]
 | _::_,[]=>by simp[Op.bytesLess]
 | [],_::_=>by simp[Op.bytesLess]
 | a::x,b::y=>by
  rw[Op.bytesLess,Adk x y];simp only[List.cons_lt_cons_iff]
  by_cases c:a<b <;> by_cases h2:a=b <;> by_cases h3:x<y <;> simp[c,h2,h3]
theorem Y3{a b:UInt8}(c : ¬a<b)(h2 : ¬b<a):a=b:=by
 apply UInt8.toNat.inj;rw[Qx2]at c h2;omega
theorem Acf:∀l m:Qq4,Lib.compareBytes l m<0↔l<m
 | [],[]=>by simp[Lib.compareBytes]
 | [],_::_=>by simp[Lib.compareBytes]
 | _::_,[]=>by simp[Lib.compareBytes]
 | a::l,b::m=>by
  have ih:=Acf l m;unfold Lib.compareBytes;rw[List.cons_lt_cons_iff]
  by_cases c:a<b
  ·rw[if_pos c];simp[c]
  ·rw[if_neg c]
   by_cases h2:b<a
   ·have hne:a≠b:=fun e=>by subst e;exact c h2
    rw[if_pos h2];simp[c,hne]
   ·have e:a=b:=Y3 c h2;rw[if_neg h2,ih];simp[e]
theorem UO:∀l m:Qq4,Lib.compareBytes l m=0↔l=m
 | [],[]=>by simp[Lib.compareBytes]
 | [],_::_=>by simp[Lib.compareBytes]
 | _::_,[]=>by simp[Lib.compareBytes]
 | a::l,b::m=>by
  have ih:=UO l m;unfold Lib.compareBytes
  by_cases c:a<b
  ·have hne:a≠b:=fun e=>by subst e;rw[Qx2]at c;omega
   rw[if_pos c];simp[hne]
  ·rw[if_neg c]
   by_cases h2:b<a
   ·have hne:a≠b:=fun e=>by subst e;exact c h2
    rw[if_pos h2];simp[hne]
   ·have e:a=b:=Y3 c h2;rw[if_neg h2,ih];simp[e]
theorem KS(l:Qq4): ¬l<l:=by
 rw[<- decide_eq_false_iff_not,<- Adk]
 induction l with
 | nil=>rfl
 | cons a l ih=>unfold Op.bytesLess;simp[ih]
abbrev Inc(l:Qq8):Prop:=l.Pairwise (· < ·)
theorem Inc.nodup{l:Qq8}(h:Inc l):l.Nodup:=by
 refine List.Pairwise.imp ?_ h;intro a b hab e;subst e;exact KS a hab
theorem Agj{l:Qq8}(h:l.Nodup):Inc (l.mergeSort leB):=by
 have tr:∀a b c:Qq4,leB a b=true->leB b c=true->leB a c=true:=fun a b c d h2=>by simp only[leB,decide_eq_true_eq]at *;exact List.le_trans d h2
 have to:∀a b:Qq4,(leB a b||leB b a)=true:=fun a b=>by simp only[leB,Qxj,decide_eq_true_eq];exact List.le_total a b
 have d:(l.mergeSort leB).Pairwise fun a b=>leB a b=true:=Qjz tr to l;have h2:(l.mergeSort leB).Nodup:=(QkZ l leB).nodup_iff.2 h;refine(d.and h2).imp fun {a b} hab=>?_;have h3:=of_decide_eq_true hab.1
 rcases List.le_iff_lt_or_eq.1 h3 with h | h
 ·exact h
 ·exact absurd h hab.2
theorem Adl{w:Qq4}{hs:List JD}:∀(es:HM) (i:Nat),es[i]? = some (w,hs)->(∀k,k<i->(es.getD k Qq2).1≠w)->BF [] w es=hs
 | [],i,h,_=>by simp at h
 | e::es,0,h,_=>by
  simp only[QkJ,Option.some.injEq]at h;subst h
  show(if w=w then hs else _)=hs
  rw[if_pos Z]
 | e::es,i+1,h,hk=>by
  have a:e.1≠w:=hk 0 U
  show(if w=e.1 then e.2 else BF [] w es)=hs
  rw[if_neg (fun x=>a x.symm)];exact Adl es i (by simpa using h) (fun k hk'=>by have:=hk (k+1) U;simpa using this)
theorem AaO(w:Qq4)(f:Qq4->List JD):∀K:Qq8,BF [] w (K.map fun k=>(k,f k))=if w∈K then f w else[]
 | []=>by simp[BF]
 | k::K=>by
  show(if w=k then f k else BF [] w (K.map fun k=>(k,f k)))=_
  rw[AaO w f K]
  by_cases h:w=k
  ·subst h;simp
  ·rw[if_neg h];simp[h]
theorem Agk(M:HM)(w:Qq4):BF [] w (S9 M)=BF [] w M:=by
 unfold S9;rw[AaO]
 by_cases h:w∈(M.map Qzz).mergeSort leB
 ·rw[if_pos h]
 ·rw[if_neg h,UM];exact fun h'=>h ((QkZ _ _).mem_iff.2 h')
theorem Aem(M:HM):(S9 M).map Qzz=(M.map Qzz).mergeSort leB:=by
 unfold S9;rw[Qkk];exact List.map_id' _
end Go.L
namespace Go.Proofs.YtopocbcekabkoaaGreatDoor
open Go Go.L
theorem AaP(e:Qq4×List JD)(w:Qq4):Ig e w=some (Lib.compareBytes e.1 w):=Z
theorem Akc{i j:Nat}(hi:i<=1000000000)(hj:j<=1000000000):IntKind.i64.wrap (IntKind.u64.wrap ((i:Int)+(j:Int)) / 2)=(((i+j) / 2:Nat):Int):=by
 have a:IntKind.u64.wrap ((i:Int)+(j:Int))=((i+j:Nat):Int):=by simp[IntKind.wrap,IntKind.signed,IntKind.bits];omega
 rw[a];simp[IntKind.wrap,IntKind.signed,IntKind.bits];omega
theorem Aen{es:HM}(hn:es.length<=1000000000)(w:Qq4)(hs:Inc (es.map Qzz)):
  BA es w=some ((((es.map Qzz).countP fun k=>decide (k<w):Nat):Int),decide (w∈es.map Qzz)):=by
 have hk:∀k,k<es.length->(es.map Qzz)[k]? = some (es.getD k Qq2).1:=fun k h=>by
  rw[Qxq,Qzy h,Qzj,Qzy h];rfl
 have mono:∀a b,a<b->b<es.length->(es.getD a Qq2).1<(es.getD b Qq2).1:=fun a b hab hb=>by
  have:=QjA.1 hs a b (by rw[Qza];omega) (by rw[Qza];omega) hab;have m:=Qzy (l:=es.map Qzz) (i:=a) (by rw[Qza];omega);have n:=Qzy (l:=es.map Qzz) (i:=b) (by rw[Qza];omega);rw[hk a U]at m;rw[hk b hb]at n;rw[Option.some.inj m,Option.some.inj n];exact this
 -- how many keys are less, once the place is known
 have cnt:∀i,i<=es.length->(∀k,k<i->(es.getD k Qq2).1<w)->(∀k,i<=k->k<es.length->¬(es.getD k Qq2).1<w)->(es.map Qzz).countP (fun k=>decide (k<w))=i:=fun i hi f h2=>by
  have e:es.map Qzz=(es.map Qzz).take i++(es.map Qzz).drop i:=(List.take_append_drop _ _).symm;rw[e,Qk2,List.countP_eq_length.2,Qk9.2,QzC,Qza]
  ·omega
  ·intro x hx;obtain⟨k,c⟩:=QjX.1 hx;rw[QxZ]at c
   have hlt:i+k<es.length:=by
    have:=(Qz6.1 c).1;rw[Qza]at this;exact this
   rw[hk _ hlt]at c;rw[<- Option.some.inj c]
   simpa using h2 (i+k) U hlt
  ·intro x hx;obtain⟨k,c⟩:=QjX.1 hx
   have hlt:k<i:=by
    have:=(Qz6.1 c).1;rw[QzC]at this;omega
   rw[QjB hlt,hk _ U]at c;rw[<- Option.some.inj c]
   simpa using f k hlt
 unfold BA C4;refine AcH (fun s=>∃i j:Nat,s=((i:Int),(j:Int))/\i<=j/\j<=es.length/\(∀k,k<i->(es.getD k Qq2).1<w)/\(∀k,j<=k->k<es.length->¬(es.getD k Qq2).1<w)) (fun s=>(s.2 - s.1).toNat) ?_ (s:=((0:Int),(es.length:Int))) ⟨0,es.length,Z,Qz5 _,Qzu _,fun k h=>by omega,fun k f h2=>by omega⟩;rintro _ ⟨i,j,rfl,hij,hj,f,h2⟩;unfold BO;simp only
 by_cases h:i<j
 ·left
  rw[if_pos U,Ac (by constructor <;> omega),Akc U U,Ac ⟨by omega,by omega⟩,Qzk,AaP,Qzq];have hm:(i+j) / 2<es.length:=by omega
  by_cases hc:(es.getD ((i+j) / 2) Qq2).1<w
  ·rw[if_pos ((Acf _ _).2 hc),Ac (by constructor <;> omega)];refine⟨_,Z,⟨(i+j) / 2+1,j,by congr 1,by omega,hj,fun k hk'=>?_,h2⟩,by simp only;omega⟩
   rcases Qxa k ((i+j) / 2)with hlt | hge
   ·exact List.lt_trans (mono _ _ hlt hm) hc
   ·obtain rfl:k=(i+j) / 2:=by omega
    exact hc
  ·rw[if_neg (fun x=>hc ((Acf _ _).1 x))];refine⟨_,Z,⟨i,(i+j) / 2,Z,by omega,by omega,f,fun k c d hl=>?_⟩,by simp only;omega⟩
   rcases Qxa ((i+j) / 2) k with hlt | hge
   ·exact hc (List.lt_trans (mono _ _ hlt d) hl)
   ·obtain rfl:k=(i+j) / 2:=by omega
    exact hc hl
 ·right
  obtain rfl:i=j:=by omega
  rw[if_neg U,cnt i hj f h2]
  congr 1
  unfold BQ
  by_cases h3:i<es.length
  ·rw[if_pos U,Ac ⟨by omega,by omega⟩,Qzk,AaP,Qzq]
   congr 2
   by_cases g:(es.getD i Qq2).1=w
   ·rw[decide_eq_true ((UO _ _).2 g),decide_eq_true];rw[<- g];exact QjX.2 ⟨i,hk i h3⟩
   ·rw[decide_eq_false (fun x=>g ((UO _ _).1 x)),decide_eq_false];intro hmem;obtain⟨k,c⟩:=QjX.1 hmem
    have hkl:k<es.length:=by
     have:=(Qz6.1 c).1;rw[Qza]at this;exact this
    rw[hk k hkl]at c;have d:=Option.some.inj c
    rcases Nat.lt_trichotomy k i with hlt | he | hgt
    ·exact KS w (by have:=f k hlt;rw[d]at this;exact this)
    ·subst he;exact g d
    ·have o:=mono i k hgt hkl;rw[d]at o;exact h2 i (Qzu _) h3 o
  ·rw[if_neg U]
   congr 2
   rw[eq_comm,decide_eq_false_iff_not];intro hmem;obtain⟨k,c⟩:=QjX.1 hmem
   have hkl:k<es.length:=by
    have:=(Qz6.1 c).1;rw[Qza]at this;exact this
   rw[hk k hkl]at c;have:=f k U;rw[Option.some.inj c]at this;exact KS w this
theorem QA{n:Int}{es:HM}(hn:es.length<=1000000000)(w:Qq4)(hs:Inc (es.map Qzz)):Ea (n,es) w=some (BF [] w es):=by
 unfold Ea;simp only;rw[Aen hn w hs,Qzq];simp only
 by_cases h:w∈es.map Qzz
 ·rw[decide_eq_true h,if_neg Qqc]
  have hc:(es.map Qzz).countP (fun k=>decide (k<w))<es.length:=by
   rcases Qxa ((es.map Qzz).countP (fun k=>decide (k<w))) (es.map Qzz).length with a | a
   ·rw[Qza]at a;exact a
   ·have h2:=Nat.le_antisymm QjQ a;exact absurd (of_decide_eq_true (List.countP_eq_length.1 h2 w h)) (KS w)
  rw[Ac ⟨by omega,by omega⟩,Qzk]
  congr 1
  -- the place of w
  obtain⟨l,r,hlr⟩:=List.append_of_mem h;have hinc:=hs;rw[hlr]at hinc;have hl:∀x∈l,x<w:=fun x hx=>(Qjw.1 hinc).2.2 x hx w (Qz2 ..);have hr:∀x∈r,¬x<w:=fun x hx hxw=>KS w (List.lt_trans ((Qxx.1 (Qjw.1 hinc).2.1).1 x hx) hxw)
  have hcnt:(es.map Qzz).countP (fun k=>decide (k<w))=l.length:=by
   rw[hlr,Qk2,Qka,List.countP_eq_length.2 (fun x hx=>decide_eq_true (hl x hx)),Qk9.2 (fun x hx=>by simpa using hr x hx),if_neg (by simp[KS w])]
   rfl
  rw[hcnt]at hc ⊢;have hget:(es.map Qzz)[l.length]? = some w:=by rw[hlr];simp
  rw[Qxq,Qzy hc]at hget;refine(Adl es l.length (hs:=(es.getD l.length Qq2).2) ?_ (fun k hk=>?_)).symm
  ·rw[Qzy hc,Qzj,Qzy hc];simp only[Option.map_some,Option.some.injEq]at hget;rw[<- hget]
   rfl
  ·intro hw;have a:(es.map Qzz)[k]? = l[k]?:=by rw[hlr,Qk4 hk]
   rw[Qxq,Qzy U,Qzy hk]at a;rw[Qzj,Qzy U]at hw;simp only[Option.map_some,Option.some.injEq]at a;have h2:=hl l[k] (Qz3 _);rw[<- a]at h2;simp only[Option.getD_some]at hw;rw[hw]at h2;exact KS w h2
 ·rw[decide_eq_false h,if_pos Qqc,UM [] w es h]
/- Lists that are equal. -/
end Go.Proofs.YtopocbcekabkoaaGreatDoor
end
noncomputable section
namespace Go.L
open Go
theorem Agl{l r:Qq4}{k:Nat}(h:k<l.length):bt (l++r) k=bt l k:=by
 unfold bt;rw[Qzj,Qzj,Qk4 h]
def Ch(x:Qq4):Prop:=x≠[]/\x.map I1=x/\∀r,M7 (x++r)=x.length
theorem Adm:∀c:Fin 256,asc c.val=true->asc (I1 (Qz8 c.val)).toNat=true/\I1 (I1 (Qz8 c.val))=I1 (Qz8 c.val):=by decide +kernel
theorem Aio{l r:Qq4}(h:QO l≠0):QO (l.take (QO l)++r)=QO l:=by
 have hc:∀k,cont l k=true->k<l.length:=fun k h=>(of_decide_eq_true h).1
 have key:∀n,QO l=n->1<n->n<=l.length->(∀k,k<n->bt (l.take n++r) k=bt l k)/\(∀k,k<n->cont (l.take n++r) k=cont l k):=by
  intro n _ _ hn;have hl:(l.take n).length=n:=by rw[QzC];omega
  have hb:∀k,k<n->bt (l.take n++r) k=bt l k:=fun k hk=>by
   rw[Agl U];unfold bt;rw[Qzj,Qzj,QjB hk]
  refine⟨hb,fun k hk=>?_⟩;unfold cont;rw[hb k hk,Qzd,hl]
  congr 1
  apply propext
  constructor <;> (rintro⟨_,h2⟩;exact⟨by omega,h2⟩)
 have h':=h;unfold QO at h'
 split at h'
 ·rename_i hA
  split at h'
  ·rename_i a;have e:QO l=2:=by unfold QO;rw[if_pos hA,if_pos a]
   obtain⟨hb,hk⟩:=key 2 e Qqc (hc 1 a);rw[e];unfold QO;rw[hb 0 Qqc,hk 1 Qqc,if_pos hA,if_pos a]
  ·exact absurd Z h'
 ·rename_i hA
  split at h'
  ·rename_i hB
   split at h'
   ·rename_i a;have e:QO l=3:=by unfold QO;rw[if_neg hA,if_pos hB,if_pos a]
    obtain⟨hb,hk⟩:=key 3 e Qqc (hc 2 a.2.1);rw[e];unfold pt3 at a;unfold QO pt3;rw[hb 0 Qqc,hb 1 Qqc,hb 2 Qqc,hk 1 Qqc,hk 2 Qqc,if_neg hA,if_pos hB,if_pos a]
   ·exact absurd Z h'
  ·rename_i hB
   split at h'
   ·rename_i hC
    split at h'
    ·rename_i a;have e:QO l=4:=by unfold QO;rw[if_neg hA,if_neg hB,if_pos hC,if_pos a]
     obtain⟨hb,hk⟩:=key 4 e Qqc (hc 3 a.2.2.1);rw[e];unfold pt4 at a;unfold QO pt4;rw[hb 0 Qqc,hb 1 Qqc,hb 2 Qqc,hb 3 Qqc,hk 1 Qqc,hk 2 Qqc,hk 3 Qqc,if_neg hA,if_neg hB,if_pos hC,if_pos a]
    ·exact absurd Z h'
   ·exact absurd Z h'
theorem Akd{l:Qq4}(hne:l≠[])(h:M7 l≠0):Ch ((l.take (M7 l)).map I1):=by
 have hl:=AbZ l hne;have hlen:((l.take (M7 l)).map I1).length=M7 l:=by rw[Qza,QzC];omega
 refine⟨fun e=>by rw[e]at hlen;exact h hlen.symm,?_,fun r=>?_⟩
 all_goals
  by_cases ha:asc (bt l 0)=true
 ·obtain⟨c,m,rfl⟩:=Qjj hne;have e:M7 (c::m)=1:=by unfold M7;rw[if_pos ha]
  have:=(Adm ⟨c.toNat,c.toNat_lt⟩ ha).2;rw[e];simp only[Qje]at this;simp[this]
 ·have e:M7 l=QO l:=by unfold M7;rw[if_neg ha]
  rw[e]at h ⊢;rw[VV h,VV h]
 ·obtain⟨c,m,rfl⟩:=Qjj hne;have e:M7 (c::m)=1:=by unfold M7;rw[if_pos ha]
  have:=(Adm ⟨c.toNat,c.toNat_lt⟩ ha).1;simp only[Qje]at this;rw[hlen,e]
  show M7 (I1 c::r)=1
  unfold M7;rw[if_pos (show asc (bt (I1 c::r) 0)=true from this)]
 ·have e:M7 l=QO l:=by unfold M7;rw[if_neg ha]
  rw[hlen];rw[e]at h hl ⊢;rw[VV h]
  have a:bt (l.take (QO l)++r) 0=bt l 0:=by
   rw[Agl (by rw[QzC];omega)];unfold bt;rw[Qzj,Qzj,QjB U]
  unfold M7;rw[a,if_neg ha];exact Aio h
def Lw(t:Qq4):Prop:=∃cs:Qq8,t=cs.flatten/\∀x∈cs,Ch x
theorem Lw.nil:Lw []:=⟨[],Z,by simp⟩
theorem Lw.snoc{t x:Qq4}(h:Lw t)(hx:Ch x):Lw (t++x):=by
 obtain⟨cs,rfl,hc⟩:=h;refine⟨cs++[x],by simp,fun y hy=>?_⟩
 rcases QzK.1 hy with hy | hy
 ·exact hc y hy
 ·rw[QzD.1 hy];exact hx
def Wok(n:Nat)(w:W):Prop:=Lw w.1/\w.1≠[]/\0<=w.2.1/\w.2.1<w.2.2/\w.2.2<=(n:Int)
theorem Acg{n:Nat}{cur:Qq4}{fr at':Nat}(hc:Lw cur)(h:cur=[]\/fr<at')(hn:at'<=n):∀w∈fin cur fr at',Wok n w:=by
 intro w hw;unfold fin at hw
 split at hw
 ·cases hw
 ·rename_i hne;rw[QzD.1 hw];have:=h.resolve_left hne;exact⟨hc,hne,by show(0:Int)<=(fr:Int);omega,by show(fr:Int)<(at':Int);omega,by show(at':Int)<=(n:Int);omega⟩
theorem Ach{a:Qq4}:∀(f at':Nat) (cur:Qq4) (fr:Nat),at'<=a.length->Lw cur->(cur=[]\/fr<at')->fr<=at'->∀w∈VW a f at' cur fr,Wok a.length w
 | 0,at',cur,fr,h,hc,hf,_=>Acg hc hf h
 | f+1,at',cur,fr,h,hc,hf,hle=>by
  intro w hw;unfold VW at hw
  split at hw
  ·rename_i b
   split at hw
   ·rcases QzK.1 hw with hw | hw
    ·exact Acg hc hf h w hw
    ·exact Ach f (at'+1) [] (at'+1) U Lw.nil (.inl Z) (Qzu _) w hw
   ·rename_i h2;exact Ach f _ _ fr (RW b) (hc.snoc (Akd (VX b) h2)) (.inr U) U w hw
  ·exact Acg hc hf h w hw
theorem Ake(a:Qq4):∀w∈Ty a,Wok a.length w:=Ach _ 0 [] 0 (Qz5 _) Lw.nil (.inl Z) (Qzu _)
end Go.L
end
noncomputable section
namespace Go.L
open Go Go.Proofs.YtopocbcekabkoaaGreatDoor
theorem IH{α:Type}[Inhabited α]{l:List α}{i:Nat}{x:α}{r:List α}(h:l.drop i=x::r):l.getD i Qq2=x/\l.drop (i+1)=r/\i<l.length:=by
 have hlen:=congrArg QxK h;rw[Qz4,Qzc]at hlen;refine⟨?_,by rw[<- Qkc,h];rfl,by omega⟩;have:=congrArg (·[0]?) h;simp only[QxZ,QkJ,Qxf]at this;rw[Qzj,this]
 rfl
theorem K5{α:Type}{l:List α}{i:Nat}(h:l.drop i=[]):l.length<=i:=by
 have hlen:=congrArg QxK h;rw[Qz4,QzB]at hlen;omega
def E(items:Qq8):HM:=S9 ((CJ 0 items).foldl Nq [])
theorem Agm(items:Qq8):(E items).map Qzz=(((CJ 0 items).foldl Nq []).map Qzz).mergeSort leB:=Aem _
theorem AkL(items:Qq8):Inc ((E items).map Qzz):=by
 rw[Agm];exact Agj (UN _ [] List.nodup_nil)
theorem Ajh(items:Qq8)(k:Qq4):k∈(E items).map Qzz↔k∈(CJ 0 items).map Qzz:=by
 rw[Agm,(QkZ _ _).mem_iff,Xm];simp
theorem Xq(items:Qq8)(w:Qq4):BF [] w (E items)=Gf (CJ 0 items) w:=by
 unfold E;rw[Agk,add_get]
 rfl
theorem Agn{items:Qq8}{e:Qq4×List JD}(h:e∈E items):e.2=Gf (CJ 0 items) e.1:=by
 unfold E S9 at h;obtain⟨k,_,rfl⟩:=Qz0.1 h;simp only;rw[add_get]
 rfl
theorem AaQ(k:Qq4)(y:List JD):∀M:HM,(Dm k y M).length<=M.length+1
 | []=>by simp[Dm]
 | (a,z)::l=>by
  unfold Dm
  split
  ·simp
  ·have:=AaQ k y l;simp only[Qzc];omega
theorem Z6:∀(P:List (Qq4×JD)) (M:HM),(P.foldl Nq M).length<=M.length+P.length
 | [],M=>by simp
 | p::P,M=>by
  rw[List.foldl_cons,Qzc];have a:=Z6 P (Nq M p);have h2:(Nq M p).length<=M.length+1:=AaQ _ _ M;omega
theorem Ago(items:Qq8):(E items).length<=(CJ 0 items).length:=by
 unfold E;rw[AaM];have:=Z6 (CJ 0 items) [];rw[QzB]at this;omega
theorem Pp(i:Int)(l:List W):FE i l=(Qzb l.length).map fun k=>((l.getD k Qq2).1,(i,((k:Nat):Int))):=by
 apply Qky;intro k
 by_cases h:k<l.length
 ·rw[Vp i l k h,Qxq,QkD h];rfl
 ·rw[QxJ (by rw[MW];omega),QxJ (by rw[Qza,QxQ];omega)]
theorem OS{i:Int}{l:List W}{p:Qq4×JD}(h:p∈FE i l):p.2.1=i/\0<=p.2.2/\p.2.2<(l.length:Int)/\∃w∈l,w.1=p.1:=by
 rw[Pp]at h;obtain⟨k,hk,rfl⟩:=Qz0.1 h;rw[QzE]at hk;refine⟨Z,by simp only;omega,by simp only;omega,l.getD k Qq2,?_,Z⟩;rw[Qzj,Qzy hk];exact Qz3 _
theorem Dx:∀(i:Nat) (r:Qq8) (m:Nat),(∀t∈r,t.length<=m)->∀p∈CJ i r,(i:Int)<=p.2.1/\p.2.1<((i+r.length:Nat):Int)/\0<=p.2.2/\p.2.2<=(m:Int)/\p.1≠[]/\p.1.length<=m
 | _,[],_,_,p,hp=>by cases hp
 | i,t::r,m,h,p,hp=>by
  unfold CJ at hp
  rcases QzK.1 hp with hp | hp
  ·obtain⟨d,h2,h3,w,a,b⟩:=OS hp;have c:=Ake t w a;have e:=AaL t w a;have f:=VY t;have g:=h t (Qz2 ..);rw[Qzc];exact⟨by omega,by omega,h2,by omega,b ▸ c.2.1,b ▸ U⟩
  ·have:=Dx (i+1) r m (fun x hx=>h x (Qz1 _ hx)) p hp;rw[Qzc];exact⟨by omega,by omega,this.2.2⟩
theorem G8{P:List (Qq4×JD)}{w:Qq4}{h:JD}:h∈Gf P w↔(w,h)∈P:=by
 unfold Gf;rw[Qz0]
 constructor
 ·rintro⟨p,hp,rfl⟩;rw[QxD]at hp;obtain⟨a,h2⟩:=hp;have h2:=of_decide_eq_true h2;rw[<- h2];exact a
 ·intro a;exact⟨(w,h),QxD.2 ⟨a,decide_eq_true Z⟩,Z⟩
theorem Al0{items:Qq8}(hn:items.length<=64){m:Nat}(ht:∀t∈items,t.length<=m){e:Qq4×List JD}(h:e∈E items):
  e.1≠[]/\e.1.length<=m/\e.2.length<=(CJ 0 items).length/\∀x∈e.2,0<=x.1/\x.1<=63/\0<=x.2/\x.2<=(m:Int):=by
 have hk:e.1∈(CJ 0 items).map Qzz:=(Ajh items e.1).1 (List.mem_map_of_mem h);obtain⟨p,hp,hpe⟩:=Qz0.1 hk;have a:=Dx 0 items m ht p hp;rw[hpe]at a;refine⟨a.2.2.2.2.1,a.2.2.2.2.2,?_,fun x hx=>?_⟩
 ·rw[Agn h];exact Ov _ _
 ·rw[Agn h,G8]at hx;have h2:=Dx 0 items m ht _ hx;simp only at h2;exact⟨by omega,by omega,h2.2.2.1,h2.2.2.2.1⟩
def gs(l:Qq5):Nat:=(l.map fun n=>gzw n.toNat).sum
theorem Adn(n:Int)(l:Qq5):gs (n::l)=gzw n.toNat+gs l:=by simp[gs]
theorem Aji{b:Nat}:∀{l:Qq5},(∀n∈l,gzw n.toNat<=b)->gs l<=l.length * b
 | [],_=>by simp[gs]
 | n::l,h=>by
  rw[Adn,Qzc,Nat.succ_mul];have a:=h n (Qz2 ..);have h2:=Aji (l:=l) (fun x hx=>h x (Qz1 _ hx));omega
theorem AaR{m:Int}(hm:0<=m):∀(p:JD) (l:List JD),0<=p.1->-1<=p.2->(∀x∈l,0<=x.1/\x.1<=63/\0<=x.2/\x.2<=m)->∀n∈PQ p l,n<=m+64
 | _,[],_,_,_,n,hn=>by cases hn
 | p,h::r,a,h2,hl,n,hn=>by
  obtain⟨a1,a2,a3,a4⟩:=hl h (Qz2 ..);unfold PQ at hn
  rcases QzK.1 hn with hn | hn
  ·split at hn
   ·simp only[Qze,Qkd,or_false]at hn;omega
   ·simp only[Qze,Qkd,or_false]at hn;omega
  ·exact AaR hm h r a1 U (fun x hx=>hl x (Qz1 _ hx)) n hn
theorem Y4:∀(p:JD) (l:List JD),(PQ p l).length=2 * l.length
 | _,[]=>rfl
 | p,h::r=>by
  unfold PQ;rw[Qzd,Y4 h r,Qzc]
  split <;> simp <;> omega
theorem Agp{e:HM}{b:Nat}:(∀x∈e,(Z5 x).length<=b)->(e.flatMap Z5).length<=e.length * b:=by
 induction e with
 | nil=>intro _;simp
 | cons x e ih=>
  intro h;rw[QxX,Qzd,Qzc,Nat.succ_mul];have a:=h x (Qz2 ..);have h2:=ih (fun y hy=>h y (Qz1 _ hy));omega
end Go.L
namespace Go.Proofs.YtopocbcekabkoaaGreatDoor
open Go Go.L
theorem Aeo{n:Int}(hn:n<16777216):H7 n=some ((gzw n.toNat:Nat):Int):=by
 by_cases h:0<=n
 ·obtain⟨k,rfl⟩:=Int.eq_ofNat_of_zero_le h;rw[Qzk];exact Agf U
 ·unfold H7;rw[if_pos U,Int.toNat_of_nonpos U]
  rfl
theorem Agq{n:Int}(hn:n<16777216):gzw n.toNat<=47:=Aka (k:=24) U Qqc
theorem Aep{n:Int}(hn:n<16777216){c:Int}(a:0<=c)(b:c<=1000000000000000000):Bg n c=some (c+((gzw n.toNat:Nat):Int)):=by
 unfold Bg;have:=Agq hn;rw[Aeo hn,Qzq,Ac (by constructor <;> omega)]
theorem AaS:∀(l:Qq5) (c:Int),(∀n∈l,n<16777216)->0<=c->c+(gs l:Int)<=1000000000000000000->fm Bg l c=some (c+(gs l:Int))
 | [],c,_,_,_=>by
  show some c=_
  congr 1
  have:gs []=0:=Z;omega
 | n::l,c,h,a,b=>by
  rw[Adn]at b ⊢
  show(Bg n c).bind (fm Bg l)=_
  rw[Aep (h n (Qz2 ..)) a U,Qzq,AaS l _ (fun x hx=>h x (Qz1 _ hx)) U U]
  congr 1
  omega
theorem Sr{items:Qq8}(hn:items.length<=64)(ht:∀t∈items,t.length<=2048):(CJ 0 items).length<=131136:=by
 have a:=Y1 0 items ht;omega
theorem Agr{items:Qq8}(hn:items.length<=64)(ht:∀t∈items,t.length<=2048):(∀n∈SO ((items.length:Int),E items),n<16777216)/\gs (SO ((items.length:Int),E items))<=1000000000000000/\∀e∈E items,EB e:=by
 have hp:=Sr hn ht;have he:=Ago items
 have a:∀e∈E items,(∀n∈Z5 e,n<16777216)/\(Z5 e).length<=300000/\EB e:=fun e h=>by
  obtain⟨_,a2,a3,a4⟩:=Al0 hn ht h;refine⟨fun n hn'=>?_,?_,?_⟩
  ·unfold Z5 at hn'
   rcases Qze.1 hn' with rfl | hn'
   ·omega
   rcases QzK.1 hn' with hn' | hn'
   ·obtain⟨b,_,rfl⟩:=Qz0.1 hn';have:=b.toNat_lt;unfold Vr;omega
   rcases Qze.1 hn' with rfl | hn'
   ·omega
   ·have:=AaR (m:=2048) Qqc (0,-1) e.2 Qqc Qqc a4 n hn';omega
  ·unfold Z5;rw[Qzc,Qzd,Qza,Qzc,Y4];omega
  ·exact⟨by omega,by omega,fun x hx=>by have:=a4 x hx;exact⟨by omega,by omega,by omega,by omega⟩⟩
 have h2:∀n∈SO ((items.length:Int),E items),n<16777216:=fun n hn'=>by
  unfold SO at hn';simp only at hn'
  rcases Qze.1 hn' with rfl | hn'
  ·omega
  rcases Qze.1 hn' with rfl | hn'
  ·omega
  ·obtain⟨e,c,d⟩:=List.mem_flatMap.1 hn';exact(a e c).1 n d
 refine⟨h2,?_,fun e h=>(a e h).2.2⟩;have h3:=Aji (b:=47) (fun n hn'=>Agq (h2 n hn'))
 have f:(SO ((items.length:Int),E items)).length<=2+(E items).length * 300000:=by
  unfold SO;have:=Agp (e:=E items) (b:=300000) (fun x hx=>(a x hx).2.1);simp only[Qzc];omega
 omega
theorem Xr{items:Qq8}(hn:items.length<=64)(ht:∀t∈items,t.length<=2048)(hl:NJ 0 items=none):
  J6 items=if 131072<gs (SO ((items.length:Int),E items))then some ((0,[]),(14,-1))else some (((items.length:Int),E items),(0,0)):=by
 have hp:=Sr hn ht;obtain⟨b,h2,h3⟩:=Agr hn ht;have he:=Ago items;have hm:=Z6 (CJ 0 items) [];rw[QzB]at hm;rw[Ael,if_neg U,hl];simp only;unfold J5;rw[Acd _ _ ⟨UN _ [] List.nodup_nil,fun x hx=>?_,by omega⟩ U]
 ·unfold J4;have c:S9 ((CJ 0 items).foldl Nq [])=E items:=Z;rw[c,Akb (a:=((items.length:Int),E items)) ⟨by simp only;omega,by simp only;omega⟩ (by simp only;omega) h3,AaS _ _ b U U,Qzq,Int.zero_add]
  by_cases h:131072<gs (SO ((items.length:Int),E items))
  ·rw[if_pos U,if_pos h];rfl
  ·rw[if_neg U,if_neg h];rfl
 ·rw[Xm]at hx;have:=Xp 0 items ht x (hx.resolve_left Qqd);unfold maxLen;omega
def total(items:Qq8):Nat:=(items.map QxK).sum
theorem Ss{t:Qq4}:∀{items:Qq8},t∈items->t.length<=total items
 | [],h=>by cases h
 | x::r,h=>by
  have e:total (x::r)=x.length+total r:=by simp[total]
  rcases Qze.1 h with rfl | h
  ·omega
  ·have:=Ss h;omega
end Go.Proofs.YtopocbcekabkoaaGreatDoor
end
noncomputable section
namespace Go.Proofs.YtopocbcekabkoaaGreatDoor
open Go Go.L
abbrev En:Type:=Lf×Qq5
end Go.Proofs.YtopocbcekabkoaaGreatDoor
end
noncomputable section
namespace Go.L
def RY{α:Type}(f:List α->Bool):List α->Bool
 | []=>f []
 | y::q=>f (y::q)||RY f q
def fits:Qq8->Qq8->Bool
 | [],q=>decide (q.length=0)
 | x::p,q=>if x=[42,42]then RY (fun r=>fits p r) q else match q with
  | []=>false
  | y::q'=>(decide (x=[42])||decide (x=y))&&fits p q'
def kp(l:Qq8)(j:Nat):Bool:=decide (j=0\/¬(l.getD j Qq2=[42,42]/\l.getD (j - 1) Qq2=[42,42]))
def kept(l:Qq8)(m:Nat):Qq8:=((Qzb m).filter (kp l)).map fun j=>l.getD j Qq2
theorem Mr(l:Qq8)(m:Nat):kept l (m+1)=kept l m++if kp l m then[l.getD m Qq2]else[]:=by
 unfold kept;rw[QxC,List.filter_append,Qxc]
 congr 1
 by_cases h:kp l m=true <;> simp[h]
theorem AaT(l:Qq8)(m:Nat):(kept l m).length<=m:=by
 unfold kept;rw[Qza];exact Qxy (Qx0 _ _) Qqd
theorem Xs{l:Qq8}{m:Nat}(hm:m<=l.length)(h:∀j,j<m->kp l j=true):kept l m=l.take m:=by
 induction m with
 | zero=>rfl
 | succ m ih=>
  rw[Mr,ih U (fun j hj=>h j U),h m U,if_pos Z,Qx7,Qzy (by omega:m<l.length)];simp[Qzj,Qzy (by omega:m<l.length)]
theorem Y5(l:Qq8):∀m,kept l (m+1)≠[]/\((kept l (m+1)).getD ((kept l (m+1)).length - 1) Qq2=[42,42]↔l.getD m Qq2=[42,42])
 | 0=>by
  have:kept l 1=[l.getD 0 Qq2]:=by rw[Mr];rfl
  exact⟨by rw[this];simp,by rw[this];exact Iff.rfl⟩
 | m+1=>by
  obtain⟨a,h2⟩:=Y5 l m;rw[Mr]
  by_cases hk:kp l (m+1)=true
  ·rw[if_pos hk];refine⟨by simp,?_⟩;simp
  ·rw[if_neg hk,QzZ];refine⟨a,h2.trans ?_⟩;unfold kp at hk;simp only[Qkx,decide_eq_true_eq,not_or,Decidable.not_not]at hk;exact⟨fun _=>hk.2.1,fun _=>hk.2.2⟩
end Go.L
namespace Go.Proofs.YtopocbcekabkoaaGreatDoor
open Go Go.L
theorem Aip{self:Qq8->Qq8->Option Bool}{p q:Qq8}{x:Qq4}(hq:q.length<=1000000000000)(hs:∀r:Qq8,r.length<=q.length->self p r=some (fits p r)):
  ∀(d i:Nat),i+d=q.length->Go.L.run (CN (x::p) q self) (i:Int)=some (RY (fun r=>fits p r) (q.drop i)):=by
 have hend:Go.L.run (CN (x::p) q self) ((q.length+1:Nat):Int)=some false:=by
  refine AV (m:=some false) ?_;unfold CN Jr;rw[if_neg U]
 have hb:∀i:Nat,i<=q.length->CN (x::p) q self (i:Int)=if fits p (q.drop i)then some (.inr true)else some (.inl ((i+1:Nat):Int)):=by
  intro i hi;unfold CN;have a:((x::p).drop (1:Int).toNat)=p:=Z;rw[if_pos U,Ac (by simp only[Qzc];omega),Ac U,a,Qzk,hs _ Qqd,Qzq,Ac (by unfold Bq;omega)]
  rfl
 intro d
 induction d with
 | zero=>
  intro i hi;obtain rfl:i=q.length:=by omega
  have h:=hb q.length (Qzu _);rw[Qxz (Qzu _)]at h ⊢;unfold RY
  by_cases hf:fits p []=true
  ·rw[if_pos hf]at h;rw[AV (m:=some true) h,hf]
  ·rw[if_neg hf]at h;rw[Bh h,hend]
   simpa using hf
 | succ d ih=>
  intro i hi;have h:=hb i U;rw[drop_cons (by omega:i<q.length)]at h ⊢;unfold RY
  by_cases hf:fits p (q.getD i Qq2::q.drop (i+1))=true
  ·rw[if_pos hf]at h;rw[AV (m:=some true) h,hf]
   rfl
  ·rw[if_neg hf]at h;rw[Bh h,ih (i+1) U];have:fits p (q.getD i Qq2::q.drop (i+1))=false:=by simpa using hf
   rw[this,Qk7]
theorem Ado:∀(p:Qq8) (n:Nat) (q:Qq8),p.length<n->q.length<=1000000000000->Fo n p q=some (fits p q)
 | [],0,_,h,_=>by simp at h
 | _::_,0,_,h,_=>by simp at h
 | [],n+1,q,_,hq=>by
  show F1 (Fo n) [] q=_
  unfold F1 fits;rw[if_pos (show((([]:Qq8).length:Nat):Int)=0 from Z)]
  congr 1
  rw[decide_eq_decide];omega
 | x::p,n+1,q,hp,hq=>by
  show F1 (Fo n) (x::p) q=_
  have ih:∀r:Qq8,r.length<=q.length->Fo n p r=some (fits p r):=fun r hr=>Ado p n r (by simp at hp;omega) U;unfold F1 fits;have hg:(x::p).getD ((0:Int).toNat) Qq2=x:=Z;rw[if_neg (by simp only[Qzc];omega),Ac (by simp only[Qzc];omega),hg]
  by_cases hx:x=[42,42]
  ·rw[if_pos hx,if_pos hx,Ac (by unfold Bq;omega)];exact Aip (x:=x) hq ih q.length 0 U
  ·rw[if_neg hx,if_neg hx];unfold Js
   cases q with
   | nil=>rfl
   | cons y q'=>
    have b:(0:Int)<((y::q').length:Int):=by simp only[Qzc];omega
    have h2:(0:Int)<=0/\(0:Int)<((x::p).length:Int):=by simp only[Qzc];omega
    have h3:(0:Int)<=1/\(1:Int)<=((x::p).length:Int):=by simp only[Qzc];omega
    have c:(0:Int)<=1/\(1:Int)<=((y::q').length:Int):=by simp only[Qzc];omega
    have d:(0:Int)<=0/\(0:Int)<((y::q').length:Int):=by simp only[Qzc];omega
    have e:(x::p).drop (1:Int).toNat=p:=Z;have f:(y::q').drop (1:Int).toNat=q':=Z;have g:(y::q').getD ((0:Int).toNat) Qq2=y:=Z;rw[if_pos b];simp only[Ac h2,Ac h3,Ac c,Ac d,hg,e,f,g,ih q' Qqd,Qzq]
    by_cases a:x=[42]
    ·rw[if_pos a];simp[a]
    ·rw[if_neg a]
     by_cases i:x=y <;> simp[a,i]
theorem Ags{self:Qq8->Qq8->Option Bool}{p q:Qq8}{x:Qq4}(hq:q.length<=1000000000000)(hs:∀r:Qq8,r.length<=q.length->self p r=some (fits p r)):
  ∀(d i:Nat),i+d=q.length->Go.L.run (DU (x::p) q self) (i:Int)=some (RY (fun r=>fits p r) (q.drop i)):=by
 have hend:Go.L.run (DU (x::p) q self) ((q.length+1:Nat):Int)=some false:=by
  refine AV (m:=some false) ?_;unfold DU Ln;rw[if_neg U]
 have hb:∀i:Nat,i<=q.length->DU (x::p) q self (i:Int)=if fits p (q.drop i)then some (.inr true)else some (.inl ((i+1:Nat):Int)):=by
  intro i hi;unfold DU;have a:((x::p).drop (1:Int).toNat)=p:=Z;rw[if_pos U,Ac (by simp only[Qzc];omega),Ac U,a,Qzk,hs _ Qqd,Qzq,Ac (by unfold Bq;omega)]
  rfl
 intro d
 induction d with
 | zero=>
  intro i hi;obtain rfl:i=q.length:=by omega
  have h:=hb q.length (Qzu _);rw[Qxz (Qzu _)]at h ⊢;unfold RY
  by_cases hf:fits p []=true
  ·rw[if_pos hf]at h;rw[AV (m:=some true) h,hf]
  ·rw[if_neg hf]at h;rw[Bh h,hend]
   simpa using hf
 | succ d ih=>
  intro i hi;have h:=hb i U;rw[drop_cons (by omega:i<q.length)]at h ⊢;unfold RY
  by_cases hf:fits p (q.getD i Qq2::q.drop (i+1))=true
  ·rw[if_pos hf]at h;rw[AV (m:=some true) h,hf]
   rfl
  ·rw[if_neg hf]at h;rw[Bh h,ih (i+1) U];have:fits p (q.getD i Qq2::q.drop (i+1))=false:=by simpa using hf
   rw[this,Qk7]
theorem Agt:∀(p:Qq8) (n:Nat) (q:Qq8),p.length<n->q.length<=1000000000000->HI n p q=some (fits p q)
 | [],0,_,h,_=>by simp at h
 | _::_,0,_,h,_=>by simp at h
 | [],n+1,q,_,hq=>by
  show H5 (HI n) [] q=_
  unfold H5 fits;rw[if_pos (show((([]:Qq8).length:Nat):Int)=0 from Z)]
  congr 1
  rw[decide_eq_decide];omega
 | x::p,n+1,q,hp,hq=>by
  show H5 (HI n) (x::p) q=_
  have ih:∀r:Qq8,r.length<=q.length->HI n p r=some (fits p r):=fun r hr=>Agt p n r (by simp at hp;omega) U;unfold H5 fits;have hg:(x::p).getD ((0:Int).toNat) Qq2=x:=Z;rw[if_neg (by simp only[Qzc];omega),Ac (by simp only[Qzc];omega),hg]
  by_cases hx:x=[42,42]
  ·rw[if_pos hx,if_pos hx];exact Ags (x:=x) hq ih q.length 0 U
  ·rw[if_neg hx,if_neg hx];unfold Lo
   cases q with
   | nil=>rfl
   | cons y q'=>
    have b:(0:Int)<((y::q').length:Int):=by simp only[Qzc];omega
    have h2:(0:Int)<=0/\(0:Int)<((x::p).length:Int):=by simp only[Qzc];omega
    have h3:(0:Int)<=1/\(1:Int)<=((x::p).length:Int):=by simp only[Qzc];omega
    have c:(0:Int)<=1/\(1:Int)<=((y::q').length:Int):=by simp only[Qzc];omega
    have d:(0:Int)<=0/\(0:Int)<((y::q').length:Int):=by simp only[Qzc];omega
    have e:(x::p).drop (1:Int).toNat=p:=Z;have f:(y::q').drop (1:Int).toNat=q':=Z;have g:(y::q').getD ((0:Int).toNat) Qq2=y:=Z;rw[if_pos b];simp only[Ac h2,Ac h3,Ac c,Ac d,hg,e,f,g,ih q' Qqd,Qzq]
    by_cases a:x=[42]
    ·rw[if_pos a];simp[a]
    ·rw[if_neg a]
     by_cases i:x=y <;> simp[a,i]
theorem Adp(a b:Qq4):H6 a b=some (decide (a=[42,42]/\b=[42,42])):=by
 unfold H6
 by_cases h:a=[42,42] <;> simp[h]
def col(l:Qq8):Qq8:=kept l l.length
theorem Adq(l:Qq8):(col l).length<=l.length:=AaT l l.length
theorem AkM{l:Qq8}(hl:l.length<=1000000000000){a:Nat}(e:1<=a)(hk:a<l.length)(hall:∀j,j<a->kp l j=true)(hno:kp l a=false):
  DF (a:Int) (l,(a:Int),(1:Int))=some (.inr (col l)):=by
 unfold DF;refine AcH (fun s=>∃(m:Qq8) (k b:Nat),s=(m,(k:Int),(b:Int))/\m.length=l.length/\m.drop (a+b - 1)=l.drop (a+b - 1)/\m.take k=kept l (a+b)/\k=(kept l (a+b)).length/\k<=a+b - 1/\1<=b/\a+b<=l.length) (fun s=>l.length - s.2.2.toNat) ?_ ?_
 ·rintro _ ⟨m,k,b,rfl,hm,hd,ht,hkl,hkk,h2,hle⟩;have hdl:(m.drop a).length=l.length - a:=by rw[Qz4,hm]
  by_cases hc:a+b<l.length
  ·left
   have c:(m.drop a).getD b Qq2=l.getD (a+b) Qq2:=by
    have:(m.drop (a+b - 1))[1]? = (l.drop (a+b - 1))[1]?:=by rw[hd]
    rw[QxZ,QxZ,show a+b - 1+1=a+b by omega]at this;rw[Qzj,Qzj,QxZ,this]
   have d:(m.drop a).getD (b - 1) Qq2=l.getD (a+b - 1) Qq2:=by
    have:(m.drop (a+b - 1))[0]? = (l.drop (a+b - 1))[0]?:=by rw[hd]
    rw[QxZ,QxZ,Qxf]at this;rw[Qzj,Qzj,QxZ,show a+(b - 1)=a+b - 1 by omega,this]
   have hks:=Mr l (a+b)
   by_cases hp:kp l (a+b)=true
   ·refine⟨(m.set k (l.getD (a+b) Qq2),((k+1:Nat):Int),((b+1:Nat):Int)),?_,⟨_,k+1,b+1,Z,by rw[Qk6,hm],?_,?_,?_,by omega,by omega,by omega⟩,by simp only[Qzk];omega⟩
    ·unfold BY;dsimp only;rw[Qzk,if_pos U,Ac U,Ac (by unfold Bq;omega),Ac U,Qzk,show((b:Int) - 1).toNat=b - 1 by omega,c,d,Adp,Qzq]
     have hx:decide (l.getD (a+b) Qq2=[42,42]/\l.getD (a+b - 1) Qq2=[42,42])=false:=by
      unfold kp at hp;rw[decide_eq_true_eq]at hp;rw[decide_eq_false_iff_not]
      rcases hp with hp | hp
      ·omega
      ·exact hp
     rw[hx,if_pos Qqc,Ac U,Ac U,Ac (by unfold Bq;omega),Ac (by unfold Bq;omega),Qzk]
     rfl
    ·rw[show a+(b+1) - 1=a+b by omega,List.drop_set_of_lt U];have:(m.drop (a+b - 1)).drop 1=(l.drop (a+b - 1)).drop 1:=by rw[hd]
     rwa [Qkc,Qkc,show a+b - 1+1=a+b by omega]at this
    ·rw[show a+(b+1)=a+b+1 by omega,hks,if_pos hp,Qx7,List.take_set_of_le (Qzu _),ht,List.getElem?_set_self U]
     rfl
    ·rw[show a+(b+1)=a+b+1 by omega,hks,if_pos hp,Qzd,<- hkl];rfl
   ·have hp':kp l (a+b)=false:=by simpa using hp
    refine⟨(m,(k:Int),((b+1:Nat):Int)),?_,⟨m,k,b+1,Z,hm,?_,?_,?_,by omega,by omega,by omega⟩,by simp only[Qzk];omega⟩
    ·unfold BY;dsimp only;rw[Qzk,if_pos U,Ac U,Ac (by unfold Bq;omega),Ac U,Qzk,show((b:Int) - 1).toNat=b - 1 by omega,c,d,Adp,Qzq]
     have hx:decide (l.getD (a+b) Qq2=[42,42]/\l.getD (a+b - 1) Qq2=[42,42])=true:=by
      unfold kp at hp';rw[decide_eq_false_iff_not]at hp';rw[decide_eq_true_eq];exact Decidable.not_not.1 (fun hh=>hp' (.inr hh))
     rw[hx,if_neg Qqc,Ac (by unfold Bq;omega)]
     rfl
    ·rw[show a+(b+1) - 1=a+b by omega];have:(m.drop (a+b - 1)).drop 1=(l.drop (a+b - 1)).drop 1:=by rw[hd]
     rwa [Qkc,Qkc,show a+b - 1+1=a+b by omega]at this
    ·rw[show a+(b+1)=a+b+1 by omega,hks,hp']
     simpa using ht
    ·rw[show a+(b+1)=a+b+1 by omega,hks,hp']
     simpa using hkl
  ·right
   have he:a+b=l.length:=by omega
   unfold BY DE;dsimp only;rw[Qzk,if_neg U,Qzk,Ac U,Ac (by simp;omega)]
   congr 1
   have htl:(m.take k).length=k:=by rw[QzC];omega
   rw[show(m.take k++Qzv (m.length - k) ([]:Qq4)).take k=m.take k by rw[List.take_append_of_le_length U,Qxb U],ht,he]
   rfl
 ·have hks:=Mr l a;have hka:=Xs (l:=l) (m:=a) U hall;refine⟨l,a,1,Z,Z,Z,?_,?_,by omega,by omega,by omega⟩
  ·rw[hks,hno,hka];simp
  ·rw[hks,hno,hka];simp;omega
theorem Akf{l:Qq8}(hl:l.length<=1000000000000):∀(d k:Nat),k+d=l.length->1<=k->(∀j,j<k->kp l j=true)->Go.L.run B6 (l,(k:Int))=some (col l):=by
 intro d
 induction d with
 | zero=>
  intro k hk a hall;refine AV (m:=some (col l)) ?_;unfold B6 DH;dsimp only;rw[if_neg U];unfold col;rw[Xs (Qzu _) (fun j hj=>hall j U),Qx3]
 | succ d ih=>
  intro k hk a hall
  by_cases hp:kp l k=true
  ·have hb:B6 (l,(k:Int))=some (.inl (l,((k+1:Nat):Int))):=by
    unfold B6;dsimp only;rw[if_pos U,Ac U,Ac (by unfold Bq;omega),Ac U,Qzk,show((k:Int) - 1).toNat=k - 1 by omega,Adp,Qzq]
    have hx:decide (l.getD k Qq2=[42,42]/\l.getD (k - 1) Qq2=[42,42])=false:=by
     unfold kp at hp;rw[decide_eq_true_eq]at hp;rw[decide_eq_false_iff_not]
     rcases hp with hp | hp
     ·omega
     ·exact hp
    rw[hx,if_neg Qqc];unfold DG;rw[Ac (by unfold Bq;omega)]
    rfl
   rw[Bh hb];refine ih (k+1) U U (fun j hj=>?_)
   rcases Nat.lt_succ_iff_lt_or_eq.1 hj with h | rfl
   ·exact hall j h
   ·exact hp
  ·have hp':kp l k=false:=by simpa using hp
   refine AV (m:=some (col l)) ?_;unfold B6;dsimp only;rw[if_pos U,Ac U,Ac (by unfold Bq;omega),Ac U,Qzk,show((k:Int) - 1).toNat=k - 1 by omega,Adp,Qzq]
   have hx:decide (l.getD k Qq2=[42,42]/\l.getD (k - 1) Qq2=[42,42])=true:=by
    unfold kp at hp';rw[decide_eq_false_iff_not]at hp';rw[decide_eq_true_eq];exact Decidable.not_not.1 (fun hh=>hp' (.inr hh))
   rw[hx,if_pos Z,Ac U,AkM hl a U hall hp']
   rfl
theorem Agu{l:Qq8}(hl:l.length<=1000000000000):CQ l=some (col l):=by
 unfold CQ
 have a:∀j,j<1->kp l j=true:=fun j hj=>by
  have:j=0:=by omega
  subst this;unfold kp;simp
 by_cases h:(l.length:Int)<2
 ·rw[if_pos h];unfold col;rw[Xs (Qzu _) (fun j hj=>a j U),Qx3]
 ·rw[if_neg h];exact Akf hl (l.length - 1) 1 U (Qzu _) a
theorem UP{a b:Qq4}(ha:a.length<900)(hb:b.length<=100000000000):FY a b=some (fits (col (sl a)) (sl b)):=by
 unfold FY;have hla:=Zt a;have hlb:=Zt b;rw[UI U,Qzq];unfold QF;generalize hX:sl a=l at *;have c:kept l 0=[]:=Z;refine BR (fun i=>(kept l i,((i:Nat):Int))) l.length (fun i hi=>?_) ?_ 0
 ·have hkl:=AaT l i;unfold JK;simp only[Qzk];have hc:Go.E.Fz 16 ((kept l i).length+[l.getD i Qq2].length):=by unfold Go.E.Fz;simp;omega
  have d:Bq ((i:Int)+1):=by unfold Bq;omega
  have hin:0<=(i:Int)/\(i:Int)<(l.length:Int):=by omega
  rw[if_pos U,Ac hin];simp only[Ac hc,Ac d,Ac hin]
  cases i with
  | zero=>
   have hkk:kp l 0=true:=by unfold kp;simp
   rw[Mr,hkk,if_pos Z]
   by_cases hx:l.getD 0 Qq2=[42,42]
   ·rw[if_pos hx,if_pos (by rw[c];rfl)];rfl
   ·rw[if_neg hx];rfl
  | succ m=>
   obtain⟨f,e⟩:=Y5 l m;have g:0<(kept l (m+1)).length:=Qkv.2 f;rw[Mr l (m+1)];have hnat:(((kept l (m+1)).length:Int) - 1).toNat=(kept l (m+1)).length - 1:=by omega
   by_cases hx:l.getD (m+1) Qq2=[42,42]
   ·rw[if_pos hx,if_neg U,Ac (by unfold Bq;omega),Ac U,hnat]
    by_cases hy:l.getD m Qq2=[42,42]
    ·have hkk:kp l (m+1)=false:=by unfold kp;rw[decide_eq_false_iff_not];simp only[Qkx];rintro(h | h);omega;exact h ⟨hx,hy⟩
     rw[if_pos (e.2 hy),hkk];simp
    ·have hkk:kp l (m+1)=true:=by unfold kp;rw[decide_eq_true_eq];exact .inr (fun h=>hy h.2)
     rw[if_neg (fun h=>hy (e.1 h)),hkk]
     rfl
   ·have hkk:kp l (m+1)=true:=by unfold kp;rw[decide_eq_true_eq];exact .inr (fun h=>hx h.1)
    rw[if_neg hx,hkk]
    rfl
 ·unfold JK Nd;dsimp only;rw[if_neg U,UI U,Qzq]
  congr 1
  have:=Adq l;have hf:U5 (kept l l.length) (sl b)=some (fits (col l) (sl b)):=Agt (col l) 1000 (sl b) U U;rw[hf]
  rfl
theorem Tp{a b:Qq4}(ha:a.length<900)(hb:b.length<4294967281):Ex a b=some (fits (col (sl a)) (sl b)):=by
 unfold Ex;have hla:=Zt a;have hlb:=Zt b;have:=Adq (sl a);rw[Xd U,Qzq,Agu U,Qzq,Xd U,Qzq];have hf:Qi (col (sl a)) (sl b)=some (fits (col (sl a)) (sl b)):=Ado (col (sl a)) 1000 (sl b) U U;rw[hf]
 rfl
theorem VZ(a:Qq4):(pf a).1=0->pf a=(0,0)/\a.length<=64:=by
 unfold pf
 split
 ·intro h;simp at h
 ·split
  ·intro h;simp at h
  ·intro _;exact⟨Z,by omega⟩
end Go.Proofs.YtopocbcekabkoaaGreatDoor
end
noncomputable section
namespace Go.L
def UQ(s:Qq4):Qq4:=OC (zz (s.length:Int))++s
def Z7(l:Qq5):Qq4:=OC (zz (l.length:Int))++l.flatMap fun i=>OC (zz i)
end Go.L
namespace Go.Proofs.YtopocbcekabkoaaGreatDoor
open Go Go.L
def SP(e:En):Qq4:=[UQ e.1.1,OC (zz e.1.2.1),OC (zz e.1.2.2.1),UQ e.1.2.2.2,Z7 e.2].flatten
def AaU(n:Int)(es:List En):Qq4:=OC (zz n)++(OC (zz (es.length:Int))++es.flatMap SP)
def EnS(e:En):Prop:=e.1.1.length<=2000000/\Bq e.1.2.1/\Bq e.1.2.2.1/\e.1.2.2.2.length<=2000000/\(∀z∈e.2,Bq z)/\e.2.length<=1000000
theorem Ms(l:Qq5):(l.flatMap fun i=>OC (zz i)).length<=10 * l.length:=by
 induction l with
 | nil=>simp
 | cons a l ih=>rw[QxX,Qzd,Qzc];have:=Eg (zz a);omega
theorem OT{α β:Type}[Inhabited α](f:α->List β){l:List α}{i:Nat}(h:i<l.length):(l.take (i+1)).flatMap f=(l.take i).flatMap f++f (l.getD i Qq2):=by
 rw[Qx7,Qzy h,Option.toList_some,List.flatMap_append];simp[Qzj,Qzy h]
theorem Aiq{l:Qq5}(h:∀z∈l,Bq z)(hl:l.length<=1000000):M1 l=some (Z7 l):=by
 unfold M1;rw[Gm (by unfold Bq;omega),Qzq];unfold PA;have b:=Eg (zz (l.length:Int));refine BR (fun i=>(OC (zz (l.length:Int))++(l.take i).flatMap (fun i=>OC (zz i)),((i:Nat):Int))) l.length (fun i hi=>?_) ?_ 0 |> fun hh=>by simpa using hh
 ·unfold Ja;dsimp only;have a:=Ms (l.take i);have h2:=Eg (zz (l.getD i Qq2));rw[QzC]at a;rw[if_pos U,Ac U,Qzk,Gm (h _ (C3 hi)),Qzq,Ac (by unfold Go.E.Fz;simp only[Qzd];omega),Ac (by unfold Bq;omega),OT _ hi,QxB]
  rfl
 ·unfold Ja Mj;dsimp only;rw[if_neg U,Qx3]
  rfl
theorem SQ{α:Type}:∀(L:List (List α)) (i:Nat),(L.take i).flatten.length<=L.flatten.length
 | [],i=>by simp
 | x::L,0=>by simp
 | x::L,i+1=>by have:=SQ L i;simp only[List.take_succ_cons,List.flatten_cons,Qzd];omega
theorem LD{α:Type}{L:List (List α)}{i:Nat}(h:i<L.length):(L.take (i+1)).flatten=(L.take i).flatten++L.getD i Qq2:=by
 rw[Qx7,Qzy h,Option.toList_some,List.flatten_append];simp[Qzj,Qzy h]
theorem Air{n:Int}(h:0<=n/\n<=1000000000000):GB [] n=some []:=by
 unfold GB Hk;rw[if_neg U,Ac (by unfold Bq;omega),Ac (by unfold Bq;omega)]
 split
 ·rw[Ac U]
 ·rfl
theorem Aeq{L:Qq8}(hL:L.length<=1000)(ht:L.flatten.length<=1000000000000):F6 L=some L.flatten:=by
 have hx:∀i,i<L.length->(L.take i).flatten.length+(L.getD i Qq2).length<=1000000000000:=fun i hi=>by
  have a:=SQ L (i+1);rw[LD hi,Qzd]at a;omega
 have b:E0 L (L.flatten.length:Int)=some L.flatten:=by
  unfold E0;rw[Air U,Qzq];unfold Jz;refine BR (fun i=>((L.take i).flatten,((i:Nat):Int))) L.length (fun i hi=>?_) ?_ 0
  ·unfold Ej;dsimp only;have:=hx i hi;rw[if_pos U,Ac U,Qzk,Ac (by unfold Go.E.Fz;omega),Ac (by unfold Bq;omega),LD hi]
   rfl
  ·unfold Ej Gz;dsimp only;rw[if_neg U,Qx3]
 unfold F6 J0;refine BR (fun i=>(((L.take i).flatten.length:Int),((i:Nat):Int))) L.length (fun i hi=>?_) ?_ 0
 ·unfold Ek;dsimp only;have:=hx i hi;rw[if_pos U,Ac U,Qzk,Ac (by unfold Bq;omega),if_neg U,Ac (by unfold Bq;omega),LD hi,Qzd]
  rfl
 ·unfold Ek;dsimp only;rw[if_neg U,Qx3,b]
theorem St{e:En}(h:EnS e):(SP e).length<=20000000:=by
 obtain⟨a,_,_,b,_,c⟩:=h;unfold SP UQ Z7;simp only[List.flatten_cons,List.flatten_nil,Qzd,QzB];have:=Ms e.2;have:=Eg (zz (e.1.1.length:Int));have:=Eg (zz e.1.2.1);have:=Eg (zz e.1.2.2.1);have:=Eg (zz (e.1.2.2.2.length:Int));have:=Eg (zz (e.2.length:Int));omega
theorem AaV{s:Qq4}(h:s.length<=2000000):HW s=some (UQ s):=by
 unfold HW UQ;have:=Eg (zz (s.length:Int));rw[Gm (by unfold Bq;omega),Qzq,Ac (by unfold Go.E.Fz;omega)]
theorem Ais{e:En}(h:EnS e):MO e=some (SP e):=by
 have hl:=St h;obtain⟨a,h2,h3,b,c,d⟩:=h;unfold MO;rw[Ac U,AaV a,Qzq,Gm h2,Qzq,Gm h3,Qzq,Ac U,AaV b,Qzq,Aiq c d,Qzq,Aeq Qqd (by unfold SP at hl;omega)]
 rfl
theorem Ow{α β:Type}(f:α->List β)(B:Nat):∀{l:List α},(∀x∈l,(f x).length<=B)->(l.flatMap f).length<=l.length * B
 | [],_=>by simp
 | x::l,h=>by
  rw[QxX,Qzd,Qzc,Qkf];have:=h x (.head _);have:=Ow f B fun y hy=>h y (.tail _ hy);omega
theorem Agv{n:Int}{es:List En}(hn:Bq n)(hl:es.length<=1000000)(h:∀e∈es,EnS e):Ic (n,es)=some (AaU n es):=by
 have ht:=Ow SP 20000000 (l:=es) fun x hx=>St (h x hx);have b:=Eg (zz (es.length:Int));have c:=Eg (zz n)
 have hw:OM es=some (OC (zz (es.length:Int))++es.flatMap SP):=by
  unfold OM;rw[Gm (by unfold Bq;omega),Qzq];unfold RD;refine BR (fun i=>(OC (zz (es.length:Int))++(es.take i).flatMap SP,((i:Nat):Int))) es.length (fun i hi=>?_) ?_ 0 |> fun hh=>by simpa using hh
  ·unfold KC;dsimp only;have a:=Ow SP 20000000 (l:=es.take i) fun x hx=>St (h x (List.mem_of_mem_take hx));rw[QzC]at a;have d:=St (h _ (C3 hi));have f:min i es.length * 20000000<=1000000 * 20000000:=QkA _ U;rw[if_pos U,Ac U,Qzk]
   show(MO (es.getD i Qq2)).bind _=_
   rw[Ais (h _ (C3 hi)),Qzq,Ac (by unfold Go.E.Fz;simp only[Qzd];omega),Ac (by unfold Bq;omega),OT _ hi,QxB]
   rfl
  ·unfold KC Of;dsimp only;rw[if_neg U,Qx3]
 unfold Ic;dsimp only;have g:es.length * 20000000<=1000000 * 20000000:=QkA _ hl;rw[Gm hn,Qzq,hw,Qzq,Ac (by unfold Go.E.Fz;simp only[Qzd];omega)]
 rfl
structure EV (n:Int) (e:En):Prop where
 path:e.1.1.length<=330/\¬0<=wr false 0 (sl e.1.1)
 kind:1<=e.1.2.1/\e.1.2.1<=4
 num:e.1.2.2.1=0\/e.1.2.1=1
 text:e.1.2.2.2=[]\/e.1.2.1=2
 ne:e.2≠[]
 items:∀z∈e.2,0<=z/\z<n
 inc:e.2.Pairwise (fun a b=>a<b)
end Go.Proofs.YtopocbcekabkoaaGreatDoor
end
noncomputable section
namespace Go.L
def Ap{α:Type}(m m':Option α):Prop:=∀r,m=some r->m'=some r
theorem apR{α:Type}(m:Option α):Ap m m:=fun _ h=>h
theorem apB{α β:Type}{m m':Option α}{f f':α->Option β}(h:Ap m m')(k:∀x,Ap (f x) (f' x)):Ap (Qq9 m f) (Qq9 m' f'):=fun r e=>by
 obtain⟨x,a,h2⟩:=bind_some e;rw[h x a,Qzq];exact k x r h2
theorem apC{α:Type}{p:Prop}[Decidable p]{m m':Option α}(h:Ap m m'):Ap (Go.L.AU p m) (Go.L.AU p m'):=fun r e=>by
 obtain⟨a,h2⟩:=Gp e;rw[Ac a];exact h r h2
theorem apI{α:Type}{p:Prop}[Decidable p]{a b a' b':Option α}(h:Ap a a')(k:Ap b b'):Ap (if p then a else b) (if p then a' else b'):=fun r e=>by
 by_cases hp:p
 ·rw[if_pos hp]at e ⊢;exact h r e
 ·rw[if_neg hp]at e ⊢;exact k r e
theorem apM{α β:Type}{f:α->β}{m m':Option α}(h:Ap m m'):Ap (Qzx f m) (Qzx f m'):=fun r e=>by
 cases m with
 | none=>cases e
 | some x=>rw[h x Z];exact e
theorem apO{α β:Type}{x:Option α}{ex ex':Option β}{k k':α->Option β}(h:Ap ex ex')(hk:∀y,Ap (k y) (k' y)):Ap (Go.L.onX x ex k) (Go.L.onX x ex' k'):=by
 cases x with
 | none=>exact h
 | some y=>exact hk y
theorem Ap.DR{σ ρ:Type}{b b':σ->Option (σ⊕ρ)}(h:∀s,Ap (b s) (b' s)):∀(n:Nat) (s:σ),Ap (DR b n s) (DR b' n s)
 | 0,_=>fun _ e=>by cases e
 | n+1,s=>fun r e=>by
  obtain⟨m,x,hm,a,h2⟩:=AQ e;obtain rfl:n=m:=by omega
  rw[Go.L.DR,h s x a]
  cases x with
  | inl s'=>exact Ap.DR h n s' r h2
  | inr y=>exact congrArg some h2
theorem Ap.run{σ ρ:Type}{b b':σ->Option (σ⊕ρ)}(h:∀s,Ap (b s) (b' s))(n:Nat)(s:σ):Ap (Go.L.DR b n s) (Go.L.run b' s):=fun r e=>YR (Ap.DR h n s r e)
class Mi {α:Type} (m:Option α) where
 c:Option α
 h:Ap c m
noncomputable instance {α:Type} (x:α):Mi (some x):=⟨some x,apR _⟩
noncomputable instance {α:Type}:Mi (none:Option α):=⟨none,apR _⟩
noncomputable instance iB {α β:Type} (m:Option α) (f:α->Option β) [i:Mi m] [j:∀x,Mi (f x)]:Mi (Qq9 m f):=⟨Qq9 i.c fun x=>(j x).c,apB i.h fun x=>(j x).h⟩
noncomputable instance iC {α:Type} (p:Prop) [Decidable p] (m:Option α) [i:Mi m]:Mi (Go.L.AU p m):=⟨Go.L.AU p i.c,apC i.h⟩
noncomputable instance iI {α:Type} (p:Prop) [Decidable p] (a b:Option α) [i:Mi a] [j:Mi b]:Mi (if p then a else b):=⟨if p then i.c else j.c,apI i.h j.h⟩
noncomputable instance {α β:Type} (f:α->β) (m:Option α) [i:Mi m]:Mi (Qzx f m):=⟨Qzx f i.c,apM i.h⟩
noncomputable instance {α β:Type} (x:Option α) (ex:Option β) (k:α->Option β) [i:Mi ex] [j:∀y,Mi (k y)]:Mi (Go.L.onX x ex k):=⟨Go.L.onX x i.c fun y=>(j y).c,apO i.h fun y=>(j y).h⟩
noncomputable instance {σ ρ:Type} (b:σ->Option (σ⊕ρ)) (s:σ) [i:∀s,Mi (b s)]:Mi (Go.L.run b s):=⟨Go.L.DR (fun s=>(i s).c) 300 s,Ap.run (fun s=>(i s).h) 300 s⟩
end Go.L
namespace Go.L
def Aer{α:Type}(le:α->α->Bool)(a:α):List α->List α
 | []=>[a]
 | b::l=>if le a b then a::b::l else b::Aer le a l
def isB{α:Type}(le:α->α->Bool):List α->List α
 | []=>[]
 | a::l=>Aer le a (isB le l)
section
variable {α:Type}{le:α->α->Bool}
theorem UR(a:α):∀l:List α,(Aer le a l).Perm (a::l)
 | []=>.refl _
 | b::l=>by
  unfold Aer
  split
  ·exact .refl _
  ·exact((UR a l).cons b).trans (.swap a b l)
theorem AaW:∀l:List α,(isB le l).Perm l
 | []=>.refl _
 | a::l=>(UR a _).trans ((AaW l).cons a)
theorem Vs(htr:∀a b c,le a b=true->le b c=true->le a c=true)(hto:∀a b,le a b=true\/le b a=true)(a:α):∀l:List α,l.Pairwise (fun x y=>le x y=true)->(Aer le a l).Pairwise fun x y=>le x y=true
 | [],_=>QkC _ _
 | b::l,h=>by
  unfold Aer
  split
  ·rename_i d;refine .cons (fun x hx=>?_) h
   rcases Qze.1 hx with rfl | hx
   ·exact d
   ·exact htr _ _ _ d ((Qxx.1 h).1 x hx)
  ·rename_i d;have h2:le b a=true:=by rcases hto a b with h | h;exact absurd h d;exact h
   refine .cons (fun x hx=>?_) (Vs htr hto a l (Qxx.1 h).2)
   rcases Qze.1 ((UR a l).mem_iff.1 hx)with rfl | hx
   ·exact h2
   ·exact(Qxx.1 h).1 x hx
theorem Tq(htr:∀a b c,le a b=true->le b c=true->le a c=true)(hto:∀a b,le a b=true\/le b a=true):∀l:List α,(isB le l).Pairwise fun x y=>le x y=true
 | []=>.nil
 | a::l=>Vs htr hto a _ (Tq htr hto l)
theorem Y6(has:∀a b,le a b=true->le b a=true->a=b):∀{l m:List α},l.Perm m->l.Pairwise (fun x y=>le x y=true)->m.Pairwise (fun x y=>le x y=true)->l=m
 | [],m,hp,_,_=>hp.nil_eq
 | a::l,m,hp,hl,hm=>by
  cases m with
  | nil=>exact absurd hp.symm.nil_eq Qqd
  | cons b m=>
   obtain⟨d,e⟩:=Qxx.1 hl;obtain⟨f,g⟩:=Qxx.1 hm
   have hab:a=b:=by
    rcases Qze.1 (hp.mem_iff.1 (.head _))with c | c
    ·exact c
    ·rcases Qze.1 (hp.mem_iff.2 (.head _))with h2 | h2
     ·exact h2.symm
     ·exact has a b (d b h2) (f a c)
   subst hab;rw[Y6 has hp.cons_inv e g]
theorem Akg(htr:∀a b c,le a b=true->le b c=true->le a c=true)(hto:∀a b,le a b=true\/le b a=true)(has:∀a b,le a b=true->le b a=true->a=b)(l:List α):isB le l=l.mergeSort le:=
 Y6 has ((AaW l).trans (QkZ l _).symm) (Tq htr hto l) (Qjz htr (fun a b=>by simpa using hto a b) l)
end
def isL(l:List Lf):List Lf:=isB (fun x y=>!(Go.Proofs.ltOf MN) y x) l
theorem Agw(l:List Lf):isL l=LK l:=by
 have hlt:∀a b,(!(Go.Proofs.ltOf MN) b a)=true↔¬MN b a<0:=fun a b=>by simp[Go.Proofs.ltOf]
 refine Akg (fun a b c e h2=>?_) (fun a b=>?_) (fun a b e h2=>?_) l
 ·rw[hlt]at *;intro h3;have s1:=OL.swap a b
  rcases Int.lt_trichotomy (MN a b) 0 with d | d | d
  ·exact h2 (OL.trans c a b h3 d)
  ·rw[OL.zero a b d]at h3;exact h2 h3
  ·omega
 ·rw[hlt,hlt];have s1:=OL.swap a b;omega
 ·exact OL.parts a b (by simpa using h2) (by simpa using e)
end Go.L
namespace Go.Proofs.YtopocbcekabkoaaGreatDoor
open Go Go.E Go.L
noncomputable def Xt(l:List (Lf×Qq5)):Option (List Lf):=Go.L.AU (Go.E.Fz 48 l.length) (some (isL (l.map Qzz)))
theorem AaX(l:List (Lf×Qq5)):Xt l=Si l:=by unfold Xt Si;rw[Agw]
noncomputable instance (l:List (Lf×Qq5)):Mi (Si l):=⟨Xt l,by rw[AaX];exact apR _⟩
end Go.Proofs.YtopocbcekabkoaaGreatDoor
end
noncomputable section
namespace Go.L
section
variable {α:Type}{le:α->α->Prop}
theorem PR[Inhabited α][DecidableEq α](hre:∀a,le a a)(htr:∀a b c,le a b->le b c->le a c)(has:∀a b,le a b->le b a->a=b)(d:Array α)(hs:∀i j,i<j->j<d.size->le d[i]! d[j]!):∀m,m<=d.size->
  (Lib.compactUpTo d m).Pairwise (fun a b=>le a b/\a≠b)/\(∀x,x∈Lib.compactUpTo d m↔∃j,j<m/\x=d[j]!)
 | 0,_=>⟨by simp[Lib.compactUpTo],fun x=>by simp[Lib.compactUpTo]⟩
 | m+1,hm=>by
  obtain⟨f,h2⟩:=PR hre htr has d hs m U;rw[Lib.compactUpTo_succ]
  by_cases hk:Lib.keeps d m=true
  ·rw[if_pos hk];refine⟨Qjw.2 ⟨f,QkC _ _,fun a ha b hb=>?_⟩,fun x=>?_⟩
   ·rw[QzD]at hb;subst hb;obtain⟨j,hj,rfl⟩:=(h2 a).1 ha;refine⟨hs j m hj U,fun e=>?_⟩;unfold Lib.keeps at hk;rw[decide_eq_true_eq]at hk
    rcases hk with hk | hk
    ·omega
    ·refine hk (has _ _ ?_ ?_)
     ·by_cases hjm:j=m - 1
      ·rw[<- e,hjm];exact hre _
      ·rw[<- e];exact hs j (m - 1) U U
     ·exact hs (m - 1) m U U
   ·rw[QzK,h2,QzD]
    constructor
    ·rintro(⟨j,hj,rfl⟩ | rfl)
     ·exact⟨j,by omega,Z⟩
     ·exact⟨m,by omega,Z⟩
    ·rintro⟨j,hj,rfl⟩
     by_cases hjm:j=m
     ·subst hjm;exact .inr Z
     ·exact .inl ⟨j,by omega,Z⟩
  ·have hk' : ¬(m=0\/d[m]!≠d[m - 1]!):=by
    unfold Lib.keeps at hk
    simpa using hk
   rw[if_neg hk,QzZ];refine⟨f,fun x=>(h2 x).trans ?_⟩
   constructor
   ·rintro⟨j,hj,rfl⟩;exact⟨j,by omega,Z⟩
   ·rintro⟨j,hj,rfl⟩
    by_cases hjm:j=m
    ·subst hjm;have e:d[j]! = d[j - 1]!:=Decidable.not_not.1 fun h=>hk' (.inr h);have g:j≠0:=fun h=>hk' (.inl h);exact⟨j - 1,by omega,e⟩
    ·exact⟨j,by omega,Z⟩
theorem Z8[Inhabited α][DecidableEq α](hre:∀a,le a a)(htr:∀a b c,le a b->le b c->le a c)(has:∀a b,le a b->le b a->a=b){l:List α}(hs:l.Pairwise le):(Lib.compact l).Pairwise (fun a b=>le a b/\a≠b)/\∀x,x∈Lib.compact l↔x∈l:=by
 have hget:∀i,i<l.length->l.toArray[i]! = l.getD i Qq2:=fun i hi=>by simp[hi]
 have:=PR hre htr has l.toArray (fun i j hij hj=>by
  have hj':j<l.length:=by simpa using hj
  have hi':i<l.length:=by omega
  have:=QjA.1 hs i j hi' hj' hij
  simpa[hi',hj']using this) l.length Qqd
 refine⟨this.1,fun x=>(this.2 x).trans ?_⟩
 constructor
 ·rintro⟨j,hj,rfl⟩;simp[hj]
 ·intro hx;obtain⟨j,hj,rfl⟩:=List.getElem_of_mem hx;exact⟨j,hj,by simp[hj]⟩
end
theorem US(l:Qq5):(Go.E.ML l).Perm l:=QkZ l _
theorem AaY(l:Qq5):(Go.E.ML l).Pairwise (fun x y=>x<=y):=by
 have:=Qjz (le:=fun x y:Int=>decide (x<=y)) (fun a b c d h2=>by simp only[decide_eq_true_eq]at *;omega) (fun a b=>by simpa using Int.le_total a b) l;exact this.imp fun h=>by simpa using h
def NK(l:Qq5):Qq5:=Lib.compact (Go.E.ML l)
theorem Mt(l:Qq5):(NK l).Pairwise (fun a b=>a<=b/\a≠b)/\∀x,x∈NK l↔x∈l:=by
 have:=Z8 (le:=fun a b:Int=>a<=b) Int.le_refl (fun _ _ _=>Int.le_trans) (fun _ _=>Int.le_antisymm) (AaY l);exact⟨this.1,fun x=>(this.2 x).trans (US l).mem_iff⟩
end Go.L
end
noncomputable section
namespace Go.L
section
variable {κ β:Type} [DecidableEq κ]
theorem UT(d:β)(k k':κ)(y:β):∀M:List (κ×β),BF d k' (Dm k y M)=if k'=k then y else BF d k' M
 | []=>by simp only[Dm,BF]
 | (a,z)::M=>by
  unfold Dm
  by_cases h:k=a
  ·subst h;rw[if_pos Z];unfold BF
   by_cases h2:k'=k
   ·rw[if_pos h2,if_pos h2]
   ·rw[if_neg h2,if_neg h2];rw[if_neg h2]
  ·rw[if_neg h];unfold BF;rw[UT d k k' y M]
   by_cases h2:k'=a
   ·rw[if_pos h2,if_neg (fun e=>h (e.symm.trans h2)),if_pos h2]
   ·rw[if_neg h2,if_neg h2]
theorem Uj{k:κ}(y:β):∀{M:List (κ×β)},k∈M.map Qzz->(Dm k y M).map Qzz=M.map Qzz
 | [],h=>by cases h
 | (a,z)::M,h=>by
  unfold Dm
  by_cases hk:k=a
  ·subst hk;rw[if_pos Z];rfl
  ·rw[if_neg hk];simp only[QzA,Qze]at h ⊢;rw[Uj y (h.resolve_left hk)]
theorem Uk{k:κ}(y:β):∀{M:List (κ×β)},k∉M.map Qzz->Dm k y M=M++[(k,y)]
 | [],_=>rfl
 | (a,z)::M,h=>by
  unfold Dm;simp only[QzA,Qze,not_or]at h;rw[if_neg h.1,Uk y h.2]
  rfl
end
def PS(k:Lf)(i:Int)(M:List (Lf×Qq5)):List (Lf×Qq5):=Dm k (BF [] k M++[i]) M
end Go.L
namespace Go.Proofs.YtopocbcekabkoaaGreatDoor
open Go Go.L
structure GI (n:Int) (es:List En):Prop where
 n0:0<=n
 n64:n<=64
 ev:∀e∈es,EV n e
 sz:∀e∈es,EnS e
 len:es.length<=1000000
 inc:es.Pairwise (fun a b=>MN a.1 b.1<0)
def Nr(M:List (Lf×Qq5)):List En:=(LK (M.map Qzz)).map fun k=>(k,NK (BF [] k M))
def MS(M:List (Lf×Qq5)):Prop:=M.length<=1000000/\∀k∈M.map Qzz,k.1.length<=2000000/\Bq k.2.1/\Bq k.2.2.1/\k.2.2.2.length<=2000000/\(BF [] k M).length<=1000000/\∀z∈BF [] k M,Bq z
theorem Ox(l:List Lf):(LK l).Perm l:=QkZ l _
theorem Xu(l:Qq5):(NK l).length<=l.length:=Qxy (Go.E.WM _) (Nat.le_of_eq (US l).length_eq)
theorem Agx{M:List (Lf×Qq5)}(h:MS M):∀e∈Nr M,EnS e:=by
 intro e he;obtain⟨k,hk,rfl⟩:=Qz0.1 he;obtain⟨a,h2,h3,b,c,d⟩:=h.2 k ((Ox _).mem_iff.1 hk);exact⟨a,h2,h3,b,fun z hz=>d z (((Mt _).2 z).1 hz),Qxy (Xu _) c⟩
theorem AaZ(M:List (Lf×Qq5)):(Nr M).length=M.length:=by unfold Nr;rw[Qza,R8,Qza]
def Aba(n:Int)(M:List (Lf×Qq5)):(Int×List En)×Qq7:=if 16384<(AaU n (Nr M)).length then((0,[]),(14,-1))else((n,Nr M),(0,0))
theorem Agy{n:Int}{M:List (Lf×Qq5)}(hn:Bq n)(h:MS M):Ie n M=some (Aba n M):=by
 unfold Ie Si;have hM:=h.1;rw[Ac (by unfold Go.E.Fz;omega),Qzq];unfold QI
 have a:KD n (Nr M)=some (Aba n M):=by
  unfold KD DK Aba;rw[Agv hn (by rw[AaZ];exact hM) (Agx h),Qzq]
  by_cases hc:16384<(AaU n (Nr M)).length
  ·rw[if_pos U,if_pos hc];rfl
  ·rw[if_neg U,if_neg hc]
 have hkl:(LK (M.map Qzz)).length=M.length:=by rw[R8,Qza]
 refine BR (fun i=>(((LK (M.map Qzz)).take i).map (fun k=>(k,NK (BF [] k M))),((i:Nat):Int))) (LK (M.map Qzz)).length (fun i hi=>?_) ?_ 0
 ·obtain⟨c,h2,h3,d,e,f⟩:=h.2 _ ((Ox _).mem_iff.1 (C3 hi))
  have ht:((LK (M.map Qzz)).take (i+1)).map (fun k=>(k,NK (BF [] k M)))=((LK (M.map Qzz)).take i).map (fun k=>(k,NK (BF [] k M)))++[((LK (M.map Qzz)).getD i Qq2,NK (BF [] ((LK (M.map Qzz)).getD i Qq2) M))]:=by
   rw[Qx7,Qzy hi,Option.toList_some,Qxc];simp[Qzj,Qzy hi]
  rw[ht];unfold JN Ju;dsimp only;rw[if_pos U,Ac U,Qzk];generalize (LK (M.map Qzz)).getD i Qq2=k at *;have b:((k.1,k.2.1,k.2.2.1,k.2.2.2):Lf)=k:=Z;simp only[b];rw[Ac (by unfold Go.E.Fz;simp only[QzB];show(0+(BF [] k M).length) * 8<=_/\_;omega),Qzq]
  show Go.L.AU (([]++BF [] k M).length<_) _=_
  rw[Qxe,Ac U,Ac (by rw[(US _).length_eq];omega),Ac (by unfold Go.E.Fz;simp only[Qza,QzC,Qzc,QzB];omega),Ac (by unfold Bq;omega)]
  rfl
 ·unfold JN;dsimp only;rw[if_neg U,Qx3];exact congrArg (Qzx Sum.inr) a
def Bd(N:Nat)(M:List (Lf×Qq5)):Prop:=∀k,(BF [] k M).length<=N
end Go.Proofs.YtopocbcekabkoaaGreatDoor
end
noncomputable section
namespace Go.L
def jn:Qq8->Qq4
 | []=>[]
 | x::l=>if l=[]then x else x++47::jn l
theorem Adr:∀(l:Qq8) (x:Qq4),jn (l++[x])=if l=[]then x else jn l++47::x
 | [],x=>by simp[jn]
 | y::l,x=>by
  have ih:=Adr l x;simp only[Qx1,jn,List.append_eq_nil_iff,List.cons_ne_nil,and_false,if_false,reduceCtorEq];rw[ih]
  by_cases h:l=[]
  ·subst h;simp
  ·simp[h]
theorem Ts:∀{l:Qq8},l≠[]->(jn l).length+1=Vm l
 | x::l,_=>by
  unfold jn Vm
  by_cases h:l=[]
  ·subst h;simp[Vm]
  ·have:=Ts h;rw[if_neg h,Qzd,Qzc];omega
theorem Y7:∀(x cur s:Qq4),47∉x->SM cur (x++47::s)=(cur++x)::SM [] s
 | [],cur,s,_=>by simp[SM]
 | c::x,cur,s,h=>by
  have hc:c≠47:=fun e=>h (by rw[e];exact .head _);simp only[Qx1,SM,if_neg hc];rw[Y7 x (cur++[c]) s (fun hh=>h (.tail _ hh))];simp
theorem Abb:∀(x cur:Qq4),47∉x->SM cur x=[cur++x]
 | [],cur,_=>by simp[SM]
 | c::x,cur,h=>by
  have hc:c≠47:=fun e=>h (by rw[e];exact .head _);simp only[SM,if_neg hc];rw[Abb x (cur++[c]) (fun hh=>h (.tail _ hh))];simp
theorem Agz:∀{l:Qq8},l≠[]->(∀x∈l,47∉x)->SM [] (jn l)=l
 | x::l,_,h=>by
  unfold jn
  by_cases hl:l=[]
  ·subst hl;rw[if_pos Z,Abb x [] (h x (.head _))];simp
  ·rw[if_neg hl,Y7 x [] _ (h x (.head _)),Agz hl (fun y hy=>h y (.tail _ hy))];simp
theorem AkP{l:Qq8}(hne:∀x∈l,x≠[])(h:∀x∈l,47∉x):sl (jn l)=l:=by
 unfold sl
 cases l with
 | nil=>simp[jn]
 | cons x l=>
  have:jn (x::l)≠[]:=by
   unfold jn;have:=hne x (.head _)
   split
   ·exact this
   ·simp
  rw[if_neg this,Agz Qqd h]
def stp(x:Qq4):Bool:=Tx x||decide (x=[35])
theorem Aci{x:Qq4}(h:stp x=true):x≠[]/\47∉x/\x≠[42]/\x≠[42,42]:=by
 unfold stp at h;rw[Qxj,decide_eq_true_eq]at h
 rcases h with h | rfl
 ·unfold Tx at h;rw[QzQ,decide_eq_true_eq]at h;obtain⟨a,h2⟩:=h;have hall:=List.all_eq_true.1 h2;refine⟨fun e=>by subst e;simp at a,fun hh=>?_,fun e=>by subst e;simp at a,fun e=>by subst e;simp at a⟩;have:=hall 47 hh
  revert this;decide
 ·decide
theorem AkQ{w:Bool}{l:Qq8}:∀{a:Int},(∀x∈l,(stp x||(w&&(decide (x=[42])||decide (x=[42,42]))))=true)->wr w a l = -1:=by
 induction l with
 | nil=>intro a _;rfl
 | cons y l ih=>
  intro a h;unfold wr;have:=h y (.head _);unfold stp at this;rw[if_pos this];exact ih (fun x hx=>h x (.tail _ hx))
end Go.L
end
noncomputable section
namespace Go.L
theorem Ag0{α:Type}[Inhabited α](f:α->Nat){l:List α}{i:Nat}(h:i<l.length):((l.drop i).map f).sum=f (l.getD i Qq2)+((l.drop (i+1)).map f).sum:=by rw[drop_cons h];simp
end Go.L
namespace Go.Proofs.YtopocbcekabkoaaGreatDoor
open Go Go.L
theorem Abc{d:Nat}{v:Pv}{a2:Int}{self:Pv->Int->Int->Option (Int×Qq7)}(hlen:v.f.2.2.2.2.length<=1000)(ha:Bq (a2+1))
  (hs:∀p∈v.f.2.2.2.2,∀m:Int,0<=m->∃r,self p m (a2+1)=some r/\((r.2=(0,0)/\Vd d p/\r.1=m+(nodes d p:Nat)/\r.1<=600)\/r.2.1≠0)) :
  ∀(k i:Nat) (m:Int),i+k=v.f.2.2.2.2.length->0<=m->m<=600->∃r,Go.L.run (C7 v a2 self) (m,(i:Int))=some r/\((r.2=(0,0)/\(∀p∈v.f.2.2.2.2.drop i,Vd d p)/\r.1=m+(((v.f.2.2.2.2.drop i).map (nodes d)).sum:Nat)/\r.1<=600)\/r.2.1≠0)
 | 0,i,m,hi,a,b=>by
  refine⟨(m,0,0),AV (m:=some (m,0,0)) ?_,.inl ⟨Z,?_⟩⟩
  ·unfold C7 Hq;dsimp only;rw[if_neg U]
  ·rw[Qxz U];exact⟨by simp,by simp,b⟩
 | k+1,i,m,hi,a,b=>by
  have hil:i<v.f.2.2.2.2.length:=by omega
  obtain⟨r,c,h2⟩:=hs _ (C3 hil) m a
  rcases h2 with ⟨hr,e,g,h⟩ | hr
  ·have hb:C7 v a2 self (m,(i:Int))=some (.inl (r.1,((i+1:Nat):Int))):=by
    unfold C7;dsimp only;rw[if_pos U,Ac U,Ac ha,Qzk,c,Qzq,if_pos (by rw[hr];exact⟨Z,Z⟩),Ac (by unfold Bq;omega)]
    rfl
   obtain⟨q,j,l⟩:=Abc hlen ha hs k (i+1) r.1 U U h;refine⟨q,by rw[Bh hb,j],?_⟩
   rcases l with ⟨hq,n,o,s⟩ | hq
   rotate_left
   ·exact .inr hq
   rw[drop_cons hil];refine .inl ⟨hq,fun p hp=>?_,?_,s⟩
   ·rcases Qze.1 hp with rfl | hp
    ·exact e
    ·exact n p hp
   ·rw[QzA,List.sum_cons,o,g];omega
  ·refine⟨(0,r.2.1,r.2.2),AV (m:=some (0,r.2.1,r.2.2)) ?_,.inr hr⟩;unfold C7;dsimp only;rw[if_pos U,Ac U,Ac ha,Qzk,c,Qzq,if_neg (fun hh=>hr hh.1)]
theorem Ag1{B:Nat}(hB:B<=100000000000):∀(d n:Nat) (v:Pv) (m:Int),d<n->Sm B d v->d<=10->0<=m->∃r,Fc n v m (11 - (d:Int))=some r/\((r.2=(0,0)/\Vd d v/\r.1=m+(nodes d v:Nat)/\r.1<=600)\/r.2.1≠0)
 | _,0,_,_,h,_,_,_=>absurd h U
 | 0,n+1,v,m,_,_,_,_=>by
  refine⟨(0,2,m),?_,.inr Qqd⟩
  show DZ (Fc n) v m _=_
  unfold DZ;rw[if_pos (by right;omega)]
  rfl
 | d+1,n+1,v,m,hn,hs,hd,hm=>by
  obtain⟨s1,l,o,s,t,u,e⟩:=hs
  show ∃r,DZ (Fc n) v m _=some r/\_
  unfold DZ
  by_cases g:(600:Int)<=m
  ·rw[if_pos (.inl g)];exact⟨(0,2,m),Z,.inr Qqd⟩
  ·rw[if_neg U];obtain⟨c,h2,h3⟩:=Zv v U;rw[h2,Qzq]
   by_cases hc:c=0
   ·rw[if_pos hc,Ac (by unfold Bq;omega)];have hok:=h3 hc
    obtain⟨r,i,j⟩:=Abc (d:=d) (v:=v) (a2:=11 - ((d+1:Nat):Int)) (self:=Fc n) (by have:=hok.many;omega) (by unfold Bq;omega)
     (fun p hp q hq=>by
      have:=Ag1 hB d n p q U (e p hp) U hq
      rwa [show(11:Int) - ((d+1:Nat):Int)+1=11 - (d:Int) by omega]) v.f.2.2.2.2.length 0 (m+1) U U U
    refine⟨r,i,?_⟩
    rcases j with ⟨hr,a,b,k⟩ | hr
    rotate_left
    ·exact .inr hr
    rw[Qx8]at a b;refine .inl ⟨hr,⟨hok,a⟩,?_,k⟩;rw[b];unfold nodes;omega
   ·rw[if_neg hc];exact⟨(0,c,m),Z,.inr hc⟩
theorem Abd{B:Nat}(hB:B<=100000000000){b:Qq4}(h:b.length<=B):HW b=some (OC (zz (b.length:Int))++b):=by
 unfold HW;have:=Eg (zz (b.length:Int));rw[Gm (by unfold Bq;omega),Qzq,Ac (by unfold Go.E.Fz;omega)]
theorem Xv{B d:Nat}(hB:B<=100000000000){v:Pv}{self:Pv->Option Qq4}(hlen:v.f.2.2.2.2.length<=600)(hsame:v.f.1=4->v.f.2.2.2.1.length=v.f.2.2.2.2.length)(hnm:∀x∈v.f.2.2.2.1,x.length<=32)
  (hnod:((v.f.2.2.2.2).map (nodes d)).sum<=600)
  (hs:∀p∈v.f.2.2.2.2,∃b,self p=some b/\b.length+42<=nodes d p * (B+100)) :
  ∀(k i:Nat) (L:Qq4) (C:Nat),i+k=v.f.2.2.2.2.length->C<=700->L.length+42+(((v.f.2.2.2.2.drop i).map (nodes d)).sum) * (B+100)<=C * (B+100)->∃b,Go.L.run (Cz v self) (L,(i:Int))=some b/\b.length+42<=C * (B+100)
 | 0,i,L,C,hi,hC,hL=>by
  refine⟨L,AV (m:=some L) ?_,by omega⟩;unfold Cz Jv;dsimp only;rw[if_neg U]
 | k+1,i,L,C,hi,hC,hL=>by
  have hil:i<v.f.2.2.2.2.length:=by omega
  obtain⟨b,h,h2⟩:=hs _ (C3 hil);rw[Ag0 _ hil,Qkf]at hL;have hCB:C * (B+100)<=700 * (100000000000+100):=Nat.mul_le_mul hC U
  have a:∀M:Qq4,M.length+b.length+42+((v.f.2.2.2.2.drop (i+1)).map (nodes d)).sum * (B+100)<=C * (B+100)->Fs v (i:Int) self M=some (.inl (M++b,((i+1:Nat):Int))):=by
   intro M hM;unfold Fs;rw[Qzk,h,Qzq,Ac (by unfold Go.E.Fz;omega),Ac (by unfold Bq;omega)]
   rfl
  by_cases c:v.f.1=4
  ·have hin:i<v.f.2.2.2.1.length:=by rw[hsame c];exact hil
   have hx:=hnm _ (C3 hin);have hv:=Eg (zz ((v.f.2.2.2.1.getD i Qq2).length:Int))
   have hb:Cz v self (L,(i:Int))=some (.inl ((L++(OC (zz ((v.f.2.2.2.1.getD i Qq2).length:Int))++v.f.2.2.2.1.getD i Qq2))++b,((i+1:Nat):Int))):=by
    unfold Cz;dsimp only;rw[if_pos U,Ac U,if_pos c,Ac U,Qzk,Ac U,Abd (B:=32) Qqc hx,Qzq,Ac (by unfold Go.E.Fz;simp only[Qzd];omega)];exact a _ (by simp only[Qzd];omega)
   obtain⟨q,e,g⟩:=Xv hB hlen hsame hnm hnod hs k (i+1) _ C U hC (show((L++(OC (zz ((v.f.2.2.2.1.getD i Qq2).length:Int))++v.f.2.2.2.1.getD i Qq2))++b).length+42+_<=_ by simp only[Qzd];omega);exact⟨q,by rw[Bh hb,e],g⟩
  ·have hb:Cz v self (L,(i:Int))=some (.inl (L++b,((i+1:Nat):Int))):=by
    unfold Cz;dsimp only;rw[if_pos U,Ac U,if_neg c];exact a _ U
   obtain⟨q,e,g⟩:=Xv hB hlen hsame hnm hnod hs k (i+1) _ C U hC (show(L++b).length+42+_<=_ by simp only[Qzd];omega);exact⟨q,by rw[Bh hb,e],g⟩
theorem Ait{x:Qq4}(h:Tx x=true):x.length<=32:=by
 unfold Tx at h;rw[QzQ,decide_eq_true_eq]at h;omega
theorem Y8{d:Nat}{l:List Pv}{p:Pv}(h:p∈l):nodes d p<=(l.map (nodes d)).sum:=by
 induction l with
 | nil=>cases h
 | cons a l ih=>
  rw[QzA,List.sum_cons]
  rcases Qze.1 h with rfl | h
  ·omega
  ·have:=ih h;omega
theorem Ag2{B:Nat}(hB:B<=100000000000):∀(d n:Nat) (v:Pv),d<=n->Sm B d v->Vd d v->nodes d v<=600->∃b,Ft n v=some b/\b.length+42<=nodes d v * (B+100)
 | 0,_,_,_,_,h,_=>h.elim
 | d+1,0,_,h,_,_,_=>absurd h U
 | d+1,n+1,v,hn,hs,hv,hnod=>by
  obtain⟨s1,k,l,m,e,g,i⟩:=hs;obtain⟨hok,hvp⟩:=hv;unfold nodes at hnod
  show ∃b,F3 (Ft n) v=some b/\_
  unfold F3;have o:=Eg (zz v.f.1);have q:=Eg (zz v.f.2.1);have r:=Eg (zz (v.f.2.2.1.length:Int));have s:=Eg (zz (v.f.2.2.2.2.length:Int));have hN:1 * (B+100)<=nodes (d+1) v * (B+100):=QkA _ (by unfold nodes;omega);rw[Gm e,Qzq]
  by_cases a:v.f.1=1
  ·rw[if_pos a,Gm g,Qzq,Ac (by unfold Go.E.Fz;omega)];exact⟨_,Z,by simp only[Qzd];omega⟩
  ·rw[if_neg a]
   by_cases c:v.f.1=2
   ·rw[if_pos c,Abd hB s1,Qzq,Ac (by unfold Go.E.Fz;simp only[Qzd];omega)];exact⟨_,Z,by simp only[Qzd];omega⟩
   ·have hmany:=hok.many;rw[if_neg c,Gm (by unfold Bq;omega),Qzq,Ac (by unfold Go.E.Fz;omega)]
    obtain⟨b,j,h2⟩:=Xv (d:=d) hB (v:=v) (self:=Ft n) hok.many hok.same (fun x hx=>Ait (hok.Tx x hx)) U
     (fun p hp=>Ag2 hB d n p U (i p hp) (hvp p hp) (by have:=Y8 (d:=d) hp;omega)) v.f.2.2.2.2.length 0 (OC (zz v.f.1)++OC (zz (v.f.2.2.2.2.length:Int))) ((v.f.2.2.2.2.map (nodes d)).sum+1) U U
     (by rw[Qx8,Qkf];simp only[Qzd];omega)
    refine⟨b,j,?_⟩;unfold nodes
    rwa [Nat.add_comm 1]
theorem Vt{B:Nat}(hB:B<=100000000000){v:Pv}(hs:Sm B 10 v):∃f,CG v=some f/\((f=(0,0)/\Vd 10 v/\nodes 10 v<=600)\/f.1≠0):=by
 obtain⟨r,d,h2⟩:=Ag1 hB 10 1000 v 0 U hs U (Int.le_refl _);have h1':OJ v 0 1=some r:=d;unfold CG N6;rw[h1',Qzq]
 rcases h2 with ⟨hr,a,e,g⟩ | hr
 ·rw[if_pos (by rw[hr];exact⟨Z,Z⟩)];obtain⟨b,h3,i⟩:=Ag2 hB 10 1000 v U hs a U;have h3':N5 v=some b:=h3;rw[h3',Qzq]
  by_cases c:(4000:Int)<(b.length:Int)
  ·rw[if_pos c];exact⟨(14,-1),Z,.inr Qqd⟩
  ·rw[if_neg c];exact⟨(0,0),Z,.inl ⟨Z,a,by omega⟩⟩
 ·rw[if_neg (fun h=>hr h.1)];exact⟨r.2,Z,.inr hr⟩
end Go.Proofs.YtopocbcekabkoaaGreatDoor
end
noncomputable section
namespace Go.L
def RZ{σ α:Type}(step:σ->α->Option σ):σ->List α->Option σ
 | s,[]=>some s
 | s,x::l=>(step s x).bind fun s'=>RZ step s' l
theorem Ul{σ α:Type}{step:σ->α->Option σ}:∀(l m:List α) (s:σ),RZ step s (l++m)=(RZ step s l).bind fun s'=>RZ step s' m
 | [],_,_=>rfl
 | x::l,m,s=>by
  simp only[Qx1,RZ]
  cases step s x with
  | none=>rfl
  | some s'=>exact Ul l m s'
def Vu(v:Pv)(i:Nat):Qq4:=if v.f.1=4 then v.f.2.2.2.1.getD i Qq2 else[35]
def Pq:Nat->Pv->Qq8->List Lf
 | 0,_,_=>[]
 | d+1,v,p=>(jn p,v.f.1,v.f.2.1,v.f.2.2.1)::(Qkq 0 v.f.2.2.2.2.length).flatMap fun i=>Pq d (v.f.2.2.2.2.getD i Qq2) (p++[Vu v i])
theorem Ag3{α:Type}[Inhabited α](l:List α):(Qkq 0 l.length).map (fun i=>l.getD i Qq2)=l:=by
 rw[<- List.range_eq_range'];apply List.ext_getElem
 ·simp
 ·intro i a h2;simp[Qzj,h2]
theorem QB:∀(d:Nat) (v:Pv) (p:Qq8),(Pq d v p).length=nodes d v
 | 0,_,_=>rfl
 | d+1,v,p=>by
  unfold Pq nodes;rw[Qzc,List.length_flatMap,Nat.add_comm]
  congr 2
  conv=>rhs;rw[<- Ag3 v.f.2.2.2.2]
  rw[Qkk];apply QkQ;intro i _;exact QB d _ _
theorem Aiu:∀p:Qq8,Lib.join p [47]=jn p
 | []=>rfl
 | x::l=>by
  have key:∀(l:Qq8) (x:Qq4),jn (x::l)=x++Lib.joinTail [47] l:=by
   intro l
   induction l with
   | nil=>intro x;simp[jn,Lib.joinTail]
   | cons y l ih=>
    intro x;unfold jn;rw[if_neg Qqd,ih y];simp[Lib.joinTail]
  rw[Lib.join_cons,key]
def POk(p:Qq8):Prop:=∀x∈p,stp x=true
theorem Adt{x:Qq4}(h:stp x=true):x.length<=32:=by
 unfold stp at h;rw[Qxj,decide_eq_true_eq]at h
 rcases h with h | rfl
 ·unfold Tx at h;rw[QzQ,decide_eq_true_eq]at h;omega
 ·decide
theorem POk.Vm{p:Qq8}(h:POk p):Vm p<=33 * p.length:=by
 induction p with
 | nil=>simp[Go.L.Vm]
 | cons x p ih=>
  have:=Adt (h x (.head _));have:=ih fun y hy=>h y (.tail _ hy);unfold Go.L.Vm;simp only[Qzc];omega
theorem POk.Ts{p:Qq8}(h:POk p):(jn p).length<=33 * p.length:=by
 by_cases a:p=[]
 ·subst a;simp[jn]
 ·have:=Go.L.Ts a;have:=h.Vm;omega
theorem POk.snoc{p:Qq8}(h:POk p){x:Qq4}(hx:stp x=true):POk (p++[x]):=fun y hy=>by
 rcases QzK.1 hy with hy | hy
 ·exact h y hy
 ·rw[QzD]at hy;subst hy;exact hx
theorem Z9{v:Pv}(h:Tn v){i:Nat}(hi:i<v.f.2.2.2.2.length):stp (Vu v i)=true:=by
 unfold Vu
 by_cases a:v.f.1=4
 ·rw[if_pos a];have:=h.Tx _ (C3 (by rw[h.same a];exact hi));unfold stp;rw[this];rfl
 ·rw[if_neg a];decide
theorem POk.nil{p:Qq8}(h:POk p):jn p=[]↔p=[]:=by
 constructor
 ·intro hj
  cases p with
  | nil=>rfl
  | cons x p=>
   have:=(Aci (h x (.head _))).1;unfold jn at hj
   split at hj
   ·exact absurd hj this
   ·simp at hj
 ·rintro rfl;rfl
end Go.L
namespace Go.Proofs.YtopocbcekabkoaaGreatDoor
open Go Go.L
section
variable {σ:Type}{step:σ->Lf->Option σ}
theorem Adu{v:Pv}{p:Qq8}{self:Pv->Qq8->σ->Option σ}{d:Nat}(hv:Tn v)(hp:p.length<=20)(hs:∀i s,i<v.f.2.2.2.2.length->self (v.f.2.2.2.2.getD i Qq2) (p++[Vu v i]) s=RZ step s (Pq d (v.f.2.2.2.2.getD i Qq2) (p++[Vu v i]))):
  ∀(k i:Nat) (s:σ),i+k=v.f.2.2.2.2.length->Go.L.run (Dq v p self) ((i:Int),s)=RZ step s ((Qkq i k).flatMap fun i=>Pq d (v.f.2.2.2.2.getD i Qq2) (p++[Vu v i]))
 | 0,i,s,hi=>by
  refine AV (m:=some s) ?_;unfold Dq;dsimp only;rw[if_neg U]
 | k+1,i,s,hi=>by
  have hil:i<v.f.2.2.2.2.length:=by omega
  have hmany:=hv.many;rw[List.range'_succ,QxX,Ul,<- hs i s hil]
  have hk:∀x,x=Vu v i->EH v p (i:Int) self x s=(self (v.f.2.2.2.2.getD i Qq2) (p++[Vu v i]) s).bind fun s'=>some (.inl (((i+1:Nat):Int),s')):=by
   rintro x rfl;unfold EH Gv;rw[Ac (by unfold Go.E.Fz;simp;omega),Qzq,Ac (by unfold Go.E.Fz;simp;omega),Qzk,Qxe];refine congrArg (Qq9 _) (funext fun x=>?_);rw[Ac (by unfold Bq;omega)]
   rfl
  have hb:Dq v p self ((i:Int),s)=(self (v.f.2.2.2.2.getD i Qq2) (p++[Vu v i]) s).bind fun s'=>some (.inl (((i+1:Nat):Int),s')):=by
   unfold Dq;dsimp only;rw[if_pos U,Ac U]
   by_cases a:v.f.1=4
   ·have:=hv.same a;rw[if_pos a,Ac U,Qzk];exact hk _ (by unfold Vu;rw[if_pos a])
   ·rw[if_neg a];exact hk _ (by unfold Vu;rw[if_neg a])
  cases hc:self (v.f.2.2.2.2.getD i Qq2) (p++[Vu v i]) s with
  | none=>
   rw[hc]at hb;exact AV (m:=none) hb
  | some s'=>
   rw[hc]at hb;rw[Bh hb];exact Adu hv hp hs k (i+1) s' U
theorem AkR:∀(d n:Nat) (v:Pv) (p:Qq8) (s:σ),d<=n->Vd d v->POk p->p.length+d<=20->GP step n v p s=RZ step s (Pq d v p)
 | 0,_,_,_,_,_,h,_,_=>h.elim
 | d+1,0,_,_,_,h,_,_,_=>absurd h U
 | d+1,n+1,v,p,s,hn,hv,hp,hl=>by
  obtain⟨hok,hvp⟩:=hv
  show Ia step (GP step n) v p s=_
  unfold Ia Vj Pq;have:=hp.Ts;rw[Aiu,Ac U,Qzq]
  show(step s (jn p,v.f.1,v.f.2.1,v.f.2.2.1)).bind _=(step s (jn p,v.f.1,v.f.2.1,v.f.2.2.1)).bind _
  congr 1
  funext s'
  exact Adu hok U (fun i s hi=>AkR d n _ _ s U (hvp _ (C3 hi)) (hp.snoc (Z9 hok hi)) (by simp;omega)) v.f.2.2.2.2.length 0 s' U
theorem Aes{v:Pv}(hv:Vd 10 v)(s:σ):M0 step v [] s=RZ step s (Pq 10 v []):=AkR 10 1000 v [] s U hv (fun x hx=>by cases hx) Qqd
end
end Go.Proofs.YtopocbcekabkoaaGreatDoor
end
noncomputable section
namespace Go.L
def Gg(P:List (Lf×Int))(M:List (Lf×Qq5)):List (Lf×Qq5):=P.foldl (fun M p=>PS p.1 p.2 M) M
theorem Abe(P Q:List (Lf×Int))(M:List (Lf×Qq5)):Gg (P++Q) M=Gg Q (Gg P M):=List.foldl_append
theorem Ag4(k k':Lf)(i z:Int)(M:List (Lf×Qq5)):z∈BF [] k' (PS k i M)↔z∈BF [] k' M\/(k'=k/\z=i):=by
 unfold PS;rw[UT]
 by_cases h:k'=k
 ·subst h;simp
 ·simp[h]
theorem Aet(k k':Lf)(i:Int)(M:List (Lf×Qq5)):k'∈(PS k i M).map Qzz↔k'=k\/k'∈M.map Qzz:=by
 unfold PS
 by_cases h:k∈M.map Qzz
 ·rw[Uj _ h];exact⟨.inr,fun hh=>by rcases hh with rfl | hh;exact h;exact hh⟩
 ·rw[Uk _ h];simp only[Qxc,QzA,Qk1,QzK,QzD];exact⟨fun hh=>hh.symm,fun hh=>hh.symm⟩
theorem Acj(k:Lf)(i:Int){M:List (Lf×Qq5)}(h:(M.map Qzz).Nodup):((PS k i M).map Qzz).Nodup:=by
 unfold PS
 by_cases hk:k∈M.map Qzz
 ·rw[Uj _ hk];exact h
 ·rw[Uk _ hk,Qxc]
  exact List.nodup_append.2 ⟨h,QkC _ _,fun a ha b hb e=>by
   simp only[QzA,Qk1,QzD]at hb;subst hb;subst e;exact hk ha⟩
theorem Sa(k:Lf)(z:Int):∀(P:List (Lf×Int)) (M:List (Lf×Qq5)),z∈BF [] k (Gg P M)↔z∈BF [] k M\/(k,z)∈P
 | [],M=>by simp[Gg]
 | p::P,M=>by
  show z∈BF [] k (Gg P (PS p.1 p.2 M))↔_
  rw[Sa k z P,Ag4,Qze,or_assoc];have:(k=p.1/\z=p.2)↔(k,z)=p:=⟨fun h=>Qxw h.1 h.2,fun h=>by rw[<- h];exact⟨Z,Z⟩⟩;rw[this]
theorem Su(k:Lf):∀(P:List (Lf×Int)) (M:List (Lf×Qq5)),k∈(Gg P M).map Qzz↔k∈M.map Qzz\/∃z,(k,z)∈P
 | [],M=>by simp[Gg]
 | p::P,M=>by
  show k∈(Gg P (PS p.1 p.2 M)).map Qzz↔_
  rw[Su k P,Aet]
  constructor
  ·rintro((rfl | h) | ⟨z,h⟩)
   ·exact .inr ⟨p.2,.head _⟩
   ·exact .inl h
   ·exact .inr ⟨z,.tail _ h⟩
  ·rintro(h | ⟨z,h⟩)
   ·exact .inl (.inr h)
   ·rcases Qze.1 h with rfl | h
    ·exact .inl (.inl Z)
    ·exact .inr ⟨z,h⟩
theorem Xw:∀(P:List (Lf×Int)) {M:List (Lf×Qq5)},(M.map Qzz).Nodup->((Gg P M).map Qzz).Nodup
 | [],_,h=>h
 | p::P,_,h=>Xw P (Acj p.1 p.2 h)
theorem Abf(k:Lf)(i:Int)(M:List (Lf×Qq5))(k':Lf):(BF [] k' (PS k i M)).length<=(BF [] k' M).length+1:=by
 unfold PS;rw[UT]
 split
 ·rename_i h;subst h;simp
 ·omega
theorem Ack(k:Lf)(i:Int)(M:List (Lf×Qq5)):(PS k i M).length<=M.length+1:=by
 unfold PS
 by_cases h:k∈M.map Qzz
 ·have:=congrArg QxK (Uj (BF [] k M++[i]) h);rw[Qza,Qza]at this;omega
 ·rw[Uk _ h];simp
theorem Abg(k:Lf):∀(P:List (Lf×Int)) (M:List (Lf×Qq5)),(BF [] k (Gg P M)).length<=(BF [] k M).length+P.length
 | [],M=>by simp[Gg]
 | p::P,M=>by
  have a:=Abg k P (PS p.1 p.2 M);have h2:=Abf p.1 p.2 M k
  show(BF [] k (Gg P (PS p.1 p.2 M))).length<=_
  rw[Qzc];omega
theorem Xx:∀(P:List (Lf×Int)) (M:List (Lf×Qq5)),(Gg P M).length<=M.length+P.length
 | [],M=>by simp[Gg]
 | p::P,M=>by
  have a:=Xx P (PS p.1 p.2 M);have h2:=Ack p.1 p.2 M
  show(Gg P (PS p.1 p.2 M)).length<=_
  rw[Qzc];omega
end Go.L
namespace Go.Proofs.YtopocbcekabkoaaGreatDoor
open Go Go.L
theorem Xy{P:List (Lf×Int)}{e:En}:e∈Nr (Gg P [])↔(∃z,(e.1,z)∈P)/\e.2=NK (BF [] e.1 (Gg P [])):=by
 unfold Nr;rw[Qz0]
 constructor
 ·rintro⟨k,hk,rfl⟩;have:=(Su k P []).1 ((Ox _).mem_iff.1 hk);simp only[Qk1,Qkd,false_or]at this;exact⟨this,Z⟩
 ·rintro⟨a,h2⟩;exact⟨e.1,(Ox _).mem_iff.2 ((Su e.1 P []).2 (.inr a)),Qxw Z h2.symm⟩
def Oy:Int->List Pv->List (Lf×Int)
 | _,[]=>[]
 | i,v::l=>((Pq 10 v []).map fun x=>(x,i))++Oy (i+1) l
theorem Xz:∀(i:Int) (a b:List Pv),Oy i (a++b)=Oy i a++Oy (i+a.length) b
 | i,[],b=>by simp[Oy]
 | i,v::a,b=>by
  simp only[Qx1,Oy,QxB];rw[Xz (i+1) a b];simp only[Qzc];rw[show i+1+(a.length:Int)=i+((a.length+1:Nat):Int) by omega]
theorem Wa:∀{i:Int}{a:List Pv}{p:Lf×Int},p∈Oy i a↔∃j:Nat,j<a.length/\p.2=i+j/\p.1∈Pq 10 (a.getD j Qq2) []
 | _,[],p=>by simp[Oy]
 | i,v::a,p=>by
  simp only[Oy,QzK,Qz0];rw[Wa]
  constructor
  ·rintro(⟨x,hx,rfl⟩ | ⟨j,b,h2,h3⟩)
   ·exact⟨0,by simp,by simp,hx⟩
   ·exact⟨j+1,by simp;omega,by omega,h3⟩
  ·rintro⟨j,b,h2,h3⟩
   cases j with
   | zero=>exact .inl ⟨p.1,h3,Qxw Z (by simpa using h2.symm)⟩
   | succ j=>exact .inr ⟨j,by simpa using b,by omega,h3⟩
theorem ZA:∀(i:Int) {a:List Pv},(∀v∈a,nodes 10 v<=600)->(Oy i a).length<=600 * a.length
 | _,[],_=>by simp[Oy]
 | i,v::a,h=>by
  simp only[Oy,Qzd,Qza,Qzc];have b:=ZA (i+1) fun v hv=>h v (.tail _ hv);have h2:=h v (.head _);rw[QB];omega
theorem X0(i:Int):∀(l:List Lf) (M:List (Lf×Qq5)) (N:Nat),Bd N M->N+l.length<=1000000000->RZ (Mh i) M l=some (Gg (l.map fun x=>(x,i)) M)
 | [],_,_,_,_=>rfl
 | x::l,M,N,hM,hN=>by
  rw[Qzc]at hN;unfold RZ;have hx:=hM x
  have e:Mh i M x=some (PS x i M):=by
   unfold Mh;rw[Ac (by unfold Go.E.Fz;omega)]
   rfl
  rw[e,Qzq,X0 i l (PS x i M) (N+1) (fun k=>by have:=Abf x i M k;have:=hM k;omega) U]
  rfl
def X1(a:List Pv):Prop:=∀v∈a,CG v=some (0,0)/\Vd 10 v/\nodes 10 v<=600
theorem Adv(P:List (Lf×Int)):Bd P.length (Gg P []):=fun k=>by have:=Abg k P [];simpa[BF]using this
theorem Y9{B:Nat}(hB:B<=100000000000){a:List Pv}(hl:a.length<=64)(hs:∀v∈a,Sm B 10 v):∀(k i:Nat),i+k=a.length->X1 (a.take i)->
  (∃j f,j<a.length/\CG (a.getD j Qq2)=some f/\f.1≠0/\X1 (a.take j)/\Go.L.run (Ds a) (Gg (Oy 0 (a.take i)) [],(i:Int))=some ((0,[]),(f.1,(j:Int))))\/
  (X1 a/\Go.L.run (Ds a) (Gg (Oy 0 (a.take i)) [],(i:Int))=Ie (a.length:Int) (Gg (Oy 0 a) []))
 | 0,i,hi,hv=>by
  right
  rw[Qxb U]at hv ⊢;refine⟨hv,?_⟩
  have e:Ds a (Gg (Oy 0 a) [],(i:Int))=(Ie (a.length:Int) (Gg (Oy 0 a) [])).map Sum.inr:=by
   unfold Ds Nh;dsimp only;rw[if_neg U]
   cases Ie (a.length:Int) (Gg (Oy 0 a) []) <;> rfl
  exact AV e
 | k+1,i,hi,hv=>by
  have hil:i<a.length:=by omega
  obtain⟨f,b,h2⟩:=Vt hB (hs _ (C3 hil))
  have htk:a.take (i+1)=a.take i++[a.getD i Qq2]:=by
   rw[Qx7,Qzy hil];simp[Qzj,Qzy hil]
  rcases h2 with ⟨rfl,h3,c⟩ | hf
  ·have hlen:=ZA 0 fun v hvm=>(hv v hvm).2.2;rw[QzC]at hlen
   have hadd:Oy 0 (a.take (i+1))=Oy 0 (a.take i)++(Pq 10 (a.getD i Qq2) []).map fun x=>(x,(i:Int)):=by
    rw[htk,Xz];simp only[Oy,QzZ,QzC];rw[show(0:Int)+((min i a.length:Nat):Int)=(i:Int) by omega]
   have hb:Ds a (Gg (Oy 0 (a.take i)) [],(i:Int))=some (.inl (Gg (Oy 0 (a.take (i+1))) [],((i+1:Nat):Int))):=by
    unfold Ds;dsimp only;rw[if_pos U,Ac U,Qzk,b,Qzq,if_pos ⟨Z,Z⟩,Aes h3,X0 (i:Int) _ _ _ (Adv _) (by rw[QB];omega),Qzq,Ac (by unfold Bq;omega),hadd,Abe]
    rfl
   rw[Bh hb];refine Y9 hB hl hs k (i+1) U ?_;rw[htk];intro v hvm
   rcases QzK.1 hvm with h | h
   ·exact hv v h
   ·rw[QzD]at h;subst h;exact⟨b,h3,c⟩
  ·left
   refine⟨i,f,hil,b,hf,hv,AV (m:=some ((0,[]),(f.1,(i:Int)))) ?_⟩;unfold Ds DK;dsimp only;rw[if_pos U,Ac U,Qzk,b,Qzq,if_neg (fun h=>hf h.1)]
   rfl
theorem ZB:∀(d:Nat) (v:Pv) (p:Qq8) {x:Lf},Vd d v->POk p->x∈Pq d v p->∃(q:Qq8) (u:Pv),x=(jn q,u.f.1,u.f.2.1,u.f.2.2.1)/\POk q/\q.length+1<=p.length+d/\Tn u/\∀B,Sm B d v->Bq u.f.1/\Bq u.f.2.1/\u.f.2.2.1.length<=B
 | 0,_,_,_,h,_,_=>h.elim
 | d+1,v,p,x,hv,hp,hx=>by
  obtain⟨hok,hvp⟩:=hv;unfold Pq at hx
  rcases Qze.1 hx with rfl | hx
  ·exact⟨p,v,Z,hp,by omega,hok,fun B hB=>⟨hB.2.2.2.2.1,hB.2.2.2.2.2.1,hB.1⟩⟩
  ·obtain⟨i,hi,hxi⟩:=List.mem_flatMap.1 hx
   have hil:i<v.f.2.2.2.2.length:=by
    have:=List.mem_range'_1.1 hi;omega
   obtain⟨q,u,a,h2,h3,b,c⟩:=ZB d _ _ (hvp _ (C3 hil)) (hp.snoc (Z9 hok hil)) hxi;refine⟨q,u,a,h2,by simp at h3;omega,b,fun B hB=>c B (hB.2.2.2.2.2.2 _ (C3 hil))⟩
theorem Aiv{v:Pv}{x:Lf}(hv:Vd 10 v)(hs:Sm 1048576 10 v)(hx:x∈Pq 10 v []):(x.1.length<=330/\¬0<=wr false 0 (sl x.1))/\(1<=x.2.1/\x.2.1<=4)/\(x.2.2.1=0\/x.2.1=1)/\(x.2.2.2=[]\/x.2.1=2)/\Bq x.2.2.1/\x.2.2.2.length<=1048576:=by
 obtain⟨q,u,rfl,h2,h3,a,b⟩:=ZB 10 v [] hv (fun y hy=>by cases hy) hx;obtain⟨e,c,d⟩:=b _ hs;have hj:=h2.Ts;simp only[QzB]at h3;refine⟨⟨by show(jn q).length<=330;omega,?_⟩,?_,?_,?_,c,d⟩
 ·show ¬0<=wr false 0 (sl (jn q))
  rw[AkP (fun y hy=>(Aci (h2 y hy)).1) (fun y hy=>(Aci (h2 y hy)).2.1),AkQ (fun y hy=>by rw[h2 y hy];rfl)]
  decide
 ·show 1<=u.f.1/\u.f.1<=4
  rcases a.kind with h | h | h | h <;> omega
 ·show u.f.2.1=0\/u.f.1=1
  exact a.num.symm
 ·show u.f.2.2.1=[]\/u.f.1=2
  exact a.bytes.symm
theorem Aiw{P:List (Lf×Int)}(hP:P.length<=1000000)(h:∀p∈P,p.1.1.length<=2000000/\Bq p.1.2.1/\Bq p.1.2.2.1/\p.1.2.2.2.length<=2000000/\Bq p.2):MS (Gg P []):=by
 refine⟨by have:=Xx P [];simp at this;omega,fun k hk=>?_⟩
 rcases(Su k P []).1 hk with a | ⟨z,hz⟩
 ·cases a
 ·obtain⟨b,h2,h3,c,_⟩:=h _ hz;refine⟨b,h2,h3,c,by have:=Adv P k;omega,fun y hy=>?_⟩
  rcases(Sa k y P []).1 hy with a | hy
  ·simp[BF]at a
  ·exact(h _ hy).2.2.2.2
theorem Abh{l:List Lf}(h:l.Nodup):(LK l).Pairwise (fun a b=>MN a b<0):=by
 have hsorted:(LK l).Pairwise fun x y=>(!(Go.Proofs.ltOf MN) y x)=true:=by
  rw[<- Agw];have hlt:∀a b,(!(Go.Proofs.ltOf MN) b a)=true↔¬MN b a<0:=fun a b=>by simp[Go.Proofs.ltOf]
  refine Tq (fun a b c f h2=>?_) (fun a b=>?_) l
  ·rw[hlt]at *;intro h3;have s1:=OL.swap a b
   rcases Int.lt_trichotomy (MN a b) 0 with d | d | d
   ·exact h2 (OL.trans c a b h3 d)
   ·rw[OL.zero a b d]at h3;exact h2 h3
   ·omega
  ·rw[hlt,hlt];have s1:=OL.swap a b;omega
 have hn:(LK l).Nodup:=(Ox l).nodup_iff.2 h;refine(List.pairwise_and_iff.2 ⟨hsorted,hn⟩).imp fun {a b} hab=>?_;obtain⟨f,h2⟩:=hab;have h1' : ¬MN b a<0:=by simpa[Go.Proofs.ltOf]using f
 have s1:=OL.swap a b;have:MN a b≠0:=fun e=>h2 (OL.zero a b e);omega
theorem Abi{a:List Pv}(hl:a.length<=64)(hv:X1 a)(hs:∀v∈a,Sm 1048576 10 v):GI (a.length:Int) (Nr (Gg (Oy 0 a) []))/\MS (Gg (Oy 0 a) []):=by
 have hlen:=ZA 0 fun v hvm=>(hv v hvm).2.2
 have hp:∀p∈Oy 0 a,((p.1.1.length<=330/\¬0<=wr false 0 (sl p.1.1))/\(1<=p.1.2.1/\p.1.2.1<=4)/\(p.1.2.2.1=0\/p.1.2.1=1)/\(p.1.2.2.2=[]\/p.1.2.1=2)/\Bq p.1.2.2.1/\p.1.2.2.2.length<=1048576)/\0<=p.2/\p.2<a.length:=fun p hpm=>by
  obtain⟨j,c,h2,h3⟩:=Wa.1 hpm;exact⟨Aiv (hv _ (C3 c)).2.1 (hs _ (C3 c)) h3,by omega,by omega⟩
 have hMS:MS (Gg (Oy 0 a) []):=Aiw U fun p hpm=>by
  obtain⟨⟨c,h2,h3,m,d,n⟩,o,q⟩:=hp p hpm;exact⟨by omega,by unfold Bq;omega,d,by omega,by unfold Bq;omega⟩
 refine⟨⟨by omega,by omega,fun e he=>?_,Agx hMS,by rw[AaZ];exact hMS.1,?_⟩,hMS⟩
 ·obtain⟨⟨z,hz⟩,h2⟩:=Xy.1 he;obtain⟨⟨f,g,i,k,r,s⟩,t,u⟩:=hp _ hz
  have hm:∀y,y∈e.2↔(e.1,y)∈Oy 0 a:=fun y=>by
   rw[h2,(Mt _).2,Sa];simp[BF]
  refine⟨f,g,i,k,fun l=>?_,fun y hy=>?_,?_⟩
  ·have:=(hm z).2 hz;rw[l]at this
   cases this
  ·exact(hp _ ((hm y).1 hy)).2
  ·rw[h2];exact(Mt _).1.imp fun {a b} h=>by omega
 ·unfold Nr;rw[QkX];exact Abh (Xw _ Qqd)
theorem X2{a:List Pv}(hs:∀v∈a,Sm 1048576 10 v):∃r,Lu a=some r/\((64<a.length/\r=((0,[]),(2,-1)))\/
  (a.length<=64/\∃j f,j<a.length/\CG (a.getD j Qq2)=some f/\f.1≠0/\X1 (a.take j)/\r=((0,[]),(f.1,(j:Int))))\/
  (a.length<=64/\X1 a/\r=Aba (a.length:Int) (Gg (Oy 0 a) []))):=by
 unfold Lu DK
 by_cases h:64<a.length
 ·rw[if_pos U];exact⟨_,Z,.inl ⟨h,Z⟩⟩
 ·rw[if_neg U];unfold QJ
  rcases Y9 (B:=1048576) U U hs a.length 0 U (fun v hv=>by simp at hv)with ⟨j,f,b,h2,h3,c,d⟩ | ⟨b,h2⟩
  ·exact⟨_,d,.inr (.inl ⟨by omega,j,f,b,h2,h3,c,Z⟩)⟩
  ·refine⟨Aba (a.length:Int) (Gg (Oy 0 a) []),?_,.inr (.inr ⟨by omega,b,Z⟩)⟩;have:=h2.trans (Agy (by unfold Bq;omega) (Abi U b hs).2);exact this
end Go.Proofs.YtopocbcekabkoaaGreatDoor
end
noncomputable section
namespace Go.Proofs.YtopocbcekabkoaaGreatDoor
open Go Go.L
def Sd(d:Qq4×Pv):Prop:=d.1.length<=1048576/\Sm 1048576 10 d.2
theorem Tt(i:Nat)(l:Qq8):(∀t∈l,t.length<=2048)->NJ i l=none:=by
 induction l generalizing i with
 | nil=>intro _;rfl
 | cons a l ih=>
  intro h;have:=h a (Qz2 ..);unfold NJ;rw[if_neg U];exact ih _ fun t ht=>h t (Qz1 _ ht)
theorem Ag5{items:Qq8}(hn:items.length<=64)(ht:∀t∈items,t.length<=2048):∃r,J6 items=some r:=by
 have hl:=Tt 0 items ht;rw[Xr hn ht hl]
 split
 ·exact⟨_,Z⟩
 ·exact⟨_,Z⟩
def Tu:((Int×(List (Qq4×(List Qq7))))×(Int×(List ((Qq4×Int×Int×Qq4)×Qq5)))×(List ((Qq5)×Qq5×Qq5))):=(((0:Int),[]),((0:Int),[]),[])
theorem Aeu{l:List (Qq4×Pv)}(hl:l.length<=64)(hs:∀d∈l,Sd d)(ht:∀d∈l,d.1.length<=2048):∃r,DN (l.map QzX) (l.map Qzz) (l.map fun d=>idx d.1)=some r/\(r.2.1=0/\r.1.2.2=l.map (fun d=>idx d.1)\/r.2.1≠0/\r.1=Tu):=by
 have h:∀(p:List ((Qq5)×Qq5×Qq5)) (a b c e:Int) (f:List (Qq4×(List Qq7))) (g:List ((Qq4×Int×Int×Qq4)×Qq5)),∃r,DM p a b c f e g=some r/\(r.2.1=0/\r.1.2.2=p\/r.2.1≠0/\r.1=Tu):=fun p a b c e f g=>by
  unfold DM DL
  split
  ·exact⟨_,Z,.inl ⟨Z,Z⟩⟩
  ·exact⟨_,Z,.inr ⟨(show(14:Int)≠0 by decide),Z⟩⟩
 unfold DN;obtain⟨w,hw⟩:=Ag5 (items:=l.map Qzz) (by simpa using hl) (fun t ht'=>by obtain⟨d,hd,rfl⟩:=Qz0.1 ht';exact ht d hd);obtain⟨s,hsb,_⟩:=X2 (a:=l.map QzX) (fun v hv=>by obtain⟨d,hd,rfl⟩:=Qz0.1 hv;exact(hs d hd).2);rw[hw,Qzq,hsb]
 split
 ·exact h _ _ _ _ _ _ _
 ·exact h _ _ _ _ _ _ _
theorem X3{l:List (Qq4×Pv)}(hl:l.length<=64)(hs:∀d∈l,Sd d):∀(d i:Nat),i+d=l.length->(∀x∈l.take i,x.1.length<=2048)->
  ∃r,KG l ((l.take i).map QzX,(l.take i).map Qzz,(l.take i).map (fun d=>idx d.1),(i:Int))=some r/\((∀d∈l,d.1.length<=2048)/\DN (l.map QzX) (l.map Qzz) (l.map fun d=>idx d.1)=some r\/r.2.1≠0/\r.1=Tu)
 | 0,i,hi,ht=>by
  have he:l.take i=l:=Qxb U;rw[he]at ht ⊢;obtain⟨r,a,h2⟩:=Aeu hl hs ht;refine⟨r,?_,.inl ⟨ht,a⟩⟩;rw[<- a];refine AV ?_;unfold Cn;simp only;rw[if_neg U]
 | d+1,i,hi,ht=>by
  have hil:i<l.length:=by omega
  have hg:l.getD ((i:Int)).toNat Qq2=l[i]:=by rw[Qzk,Qzj,Qzy hil];rfl
  have hm:l[i]∈l:=Qz3 _;have hlt:(l.take i).length<=64:=by rw[QzC];omega
  have hc:∀(n b:Nat),n<=64->b<=100->Go.E.Fz b (n+1):=fun n b hn hb=>by
   unfold Go.E.Fz;have:=Nat.mul_le_mul (show n+1<=65 by omega) hb;exact⟨by omega,by omega⟩
  unfold KG
  by_cases h2:l[i].1.length<=2048
  ·obtain⟨f,hf,hv⟩:=Vt (B:=1048576) U (hs _ hm).2
   by_cases h3:f.1=0/\f.2=0
   ·have hb:Cn l ((l.take i).map QzX,(l.take i).map Qzz,(l.take i).map (fun d=>idx d.1),(i:Int))=some (.inl ((l.take i).map QzX++[l[i].2],(l.take i).map Qzz++[l[i].1],(l.take i).map (fun d=>idx d.1)++[idx l[i].1],((i+1:Nat):Int))):=by
     unfold Cn;simp only;rw[if_pos U,Ac U,hg,Ui,Qzq,if_pos h2];simp only[and_self,if_true];rw[hf,Qzq,if_pos h3,Ac (by rw[Qza];exact hc _ _ hlt U),Ac (by rw[Qza];exact hc _ _ hlt U),Ac (by rw[Qza];exact hc _ _ hlt U)];unfold KF;rw[Ac (by unfold Bq;omega)]
     rfl
    have e:l.take (i+1)=l.take i++[l[i]]:=(List.take_append_getElem hil).symm
    have ih:=X3 hl hs d (i+1) U (fun x hx=>by
     rw[e]at hx
     rcases QzK.1 hx with hx | hx
     ·exact ht x hx
     ·obtain rfl:=QzD.1 hx;exact h2)
    rw[Bh hb];rw[e,Qxc,Qxc,Qxc]at ih;exact ih
   ·have hb:Cn l ((l.take i).map QzX,(l.take i).map Qzz,(l.take i).map (fun d=>idx d.1),(i:Int))=some (.inr (Tu,(f.1,(i:Int)))):=by
     unfold Cn;simp only;rw[if_pos U,Ac U,hg,Ui,Qzq,if_pos h2];simp only[and_self,if_true];rw[hf,Qzq,if_neg h3]
     rfl
    refine⟨(Tu,(f.1,(i:Int))),AV (m:=some (Tu,(f.1,(i:Int)))) hb,.inr ⟨?_,Z⟩⟩;intro c
    rcases hv with ⟨rfl,_⟩ | hv
    ·exact h3 ⟨Z,Z⟩
    ·exact hv c
  ·have hb:Cn l ((l.take i).map QzX,(l.take i).map Qzz,(l.take i).map (fun d=>idx d.1),(i:Int))=some (.inr (Tu,(3,(i:Int)))):=by
    unfold Cn;simp only;rw[if_pos U,Ac U,hg,Ui,Qzq,if_neg h2]
    rfl
   exact⟨(Tu,(3,(i:Int))),AV (m:=some (Tu,(3,(i:Int)))) hb,.inr ⟨(show(3:Int)≠0 by decide),Z⟩⟩
end Go.Proofs.YtopocbcekabkoaaGreatDoor
end
noncomputable section
namespace Go.L
open Go
def Smq(B:Nat):Nat->Qv->Prop
 | 0,_=>True
 | d+1,q=>q.f.2.1.length<=B/\q.f.2.2.1.length<=B/\q.f.2.2.2.1.length<=B/\q.f.2.2.2.2.2.2.length<=B/\(∀x∈q.f.2.1,x.length<=B)/\Bq q.f.2.2.2.2.1/\Bq q.f.2.2.2.2.2.1/\∀p∈q.f.2.2.2.2.2.2,Smq B d p
end Go.L
namespace Go.Proofs.YtopocbcekabkoaaGreatDoor
open Go Go.L
def wfs:Qq8->Int
 | []=>0
 | w::l=>if(wf w).1=0 then wfs l else(wf w).1
theorem AkS{w:Qq4}(h:(wf w).1=0):wf w=(0,0):=by
 unfold wf at h ⊢
 split at h
 ·cases h
 ·rename_i a;rw[if_neg a]
  split at h
  ·rename_i b;rw[if_pos b]
  ·cases h
theorem AkT{w:Qq4}(h:(pf w).1=0):pf w=(0,0):=by
 unfold pf at h ⊢
 split at h
 ·cases h
 ·rename_i a;rw[if_neg a]
  split at h
  ·cases h
  ·rename_i b;rw[if_neg b]
theorem Qf(k:Int)(ws:Qq8)(p d:Qq4)(l h:Int)(ss:List Qv):(Qv.mk k ws p d l h ss).f=(k,ws,p,d,l,h,ss):=Z
theorem YA{ws:Qq8}(hl:ws.length<=1000000000){b:Int->Option (Int⊕Int)}{m:Option Int}
  (a:∀i:Nat,i<ws.length->b (i:Int)=if(wf (ws.getD i Qq2)).1=0 then some (.inl ((i:Int)+1))else some (.inr (wf (ws.getD i Qq2)).1)) (h2:b (ws.length:Int)=m.map Sum.inr):Go.L.run b 0=if wfs ws=0 then m else some (wfs ws):=by
 have key:∀(d i:Nat),i+d=ws.length->Go.L.run b (i:Int)=if wfs (ws.drop i)=0 then m else some (wfs (ws.drop i)):=by
  intro d
  induction d with
  | zero=>
   intro i hi;rw[Qxz U,if_pos (by rfl),show i=ws.length by omega];exact AV h2
  | succ d ih=>
   intro i hi;have hb:=a i U;rw[Qku U,wfs];have hg:ws.getD i Qq2=ws[i]:=by rw[Qzj,Qzy U];rfl
   rw[hg]at hb
   by_cases hw:(wf ws[i]).1=0
   ·rw[if_pos hw]at hb ⊢;rw[Bh hb];exact ih (i+1) U
   ·rw[if_neg hw]at hb ⊢;rw[if_neg hw];exact AV (m:=some _) hb
 exact key ws.length 0 U
def Pu(q:Qv):Bool:=q.f.2.2.2.2.2.2.any fun s=>decide (s.f.1=q.f.1)
theorem Ag6{l:List Qv}{k:Int}(hl:l.length<=1000000000){σ ρ:Type}{b:σ->Option (σ⊕ρ)}{st:Nat->σ}{m y:Option ρ}
  (a:∀i:Nat,i<l.length->b (st i)=if(l.getD i Qq2).f.1=k then y.map Sum.inr else some (.inl (st (i+1)))) (h2:b (st l.length)=m.map Sum.inr):Go.L.run b (st 0)=if(l.any fun s=>decide (s.f.1=k))then y else m:=by
 have key:∀(d i:Nat),i+d=l.length->Go.L.run b (st i)=if((l.drop i).any fun s=>decide (s.f.1=k))then y else m:=by
  intro d
  induction d with
  | zero=>
   intro i hi;rw[Qxz U,if_neg Qqd,show i=l.length by omega];exact AV h2
  | succ d ih=>
   intro i hi;have hb:=a i U;have hg:l.getD i Qq2=l[i]:=by rw[Qzj,Qzy U];rfl
   rw[hg]at hb;rw[Qku U,List.any_cons]
   by_cases hw:l[i].f.1=k
   ·rw[if_pos hw]at hb;rw[decide_eq_true hw,Bool.true_or,if_pos Z];exact AV hb
   ·rw[if_neg hw]at hb;rw[Bh hb,decide_eq_false hw,Qk7];exact ih (i+1) U
 exact key l.length 0 U
end Go.Proofs.YtopocbcekabkoaaGreatDoor
namespace Go.Proofs.YtopocbcekabkoaaGreatDoor
open Go Go.L
theorem Aix{q:Qv}(hl:q.f.2.2.2.2.2.2.length<=1000000000):∃u,Bm q.f.2.2.2.2.2.2 q=some (Pu q,u):=by
 unfold Bm D3 Fa;obtain⟨k,ws,pat,data,low,high,subs⟩:=q;simp only[Qf]at hl ⊢
 have key:∃r,Go.L.run (B0 subs) (k,ws,pat,data,low,high,subs,0)=some r/\decide (0<=r.1)=Pu (.mk k ws pat data low high subs):=by
  have:∀(d i:Nat),i+d=subs.length->∃r,Go.L.run (B0 subs) (k,ws,pat,data,low,high,subs,(i:Int))=some r/\decide (0<=r.1)=(subs.drop i).any fun s=>decide (s.f.1=k):=by
   intro d
   induction d with
   | zero=>
    intro i hi;refine⟨(-1,.mk k ws pat data low high subs),AV (m:=some _) ?_,?_⟩
    ·unfold B0;simp only;rw[if_neg U]
     rfl
    ·rw[Qxz U]
     rfl
   | succ d ih=>
    intro i hi;have hg:subs.getD i Qq2=subs[i]:=by rw[Qzj,Qzy U];rfl
    rw[Qku U,List.any_cons]
    have hb:B0 subs (k,ws,pat,data,low,high,subs,(i:Int))=if subs[i].f.1=k then some (.inr ((i:Int),.mk k ws pat data low high subs))else some (.inl (k,ws,pat,data,low,high,subs,((i+1:Nat):Int))):=by
     unfold B0;simp only;rw[if_pos U,Ac ⟨by omega,by omega⟩,Qzk,hg];unfold Ni;simp only[Qzq,Qf]
     by_cases hk:subs[i].f.1=k
     ·simp[hk]
     ·simp only[hk,decide_false,Qxk,if_false];rw[Ac (by constructor <;> omega)]
      rfl
    by_cases hk:subs[i].f.1=k
    ·rw[if_pos hk]at hb;refine⟨_,AV (m:=some _) hb,?_⟩;rw[decide_eq_true hk,Bool.true_or];exact decide_eq_true U
    ·rw[if_neg hk]at hb;rw[Bh hb,decide_eq_false hk,Qk7];exact ih (i+1) U
  exact this subs.length 0 U
 obtain⟨r,a,h2⟩:=key;rw[a,Qzq,h2];exact⟨_,Z⟩
def Frm(q:Qv):Bool:=
 let k:=q.f.1
 let n:=q.f.2.1.length
 let m:=q.f.2.2.2.2.2.2.length
 (if k=1 then decide (n=1)else if k=2 then decide (2<=n/\n<=16)else if k=3 then decide (n=2)else decide (n=0)) &&
 (decide (k=5\/k=6\/k=7)||decide (q.f.2.2.1=[]))&&(decide (k=4\/k=7)||decide (q.f.2.2.2.1=[])) &&
 (decide (k=3\/k=6)||decide (q.f.2.2.2.2.1=0))&&(decide (k=6)||decide (q.f.2.2.2.2.2.1=0)) &&
 (if k=8\/k=9 then decide (2<=m)&&!Pu q else if k=10 then decide (m=1)else decide (m=0))
theorem Aew{q:Qv}(hl:q.f.2.2.2.2.2.2.length<=1000000000)(hk:1<=q.f.1/\q.f.1<=10):M3 q=some (Frm q):=by
 obtain⟨u,hc⟩:=Aix hl;unfold M3 C2;rw[hc];clear hc;unfold Frm;clear hl;generalize Pu q=B;generalize q.f.1=k at hk ⊢;generalize q.f.2.1.length=n;have hd:∀l:Qq4,l=[]↔l.length=0:=fun l=>List.length_eq_zero_iff.symm;have hd':([]=q.f.2.2.1)↔q.f.2.2.1.length=0:=by rw[eq_comm,hd]
 generalize q.f.2.2.2.2.1=low;generalize q.f.2.2.2.1=data;generalize q.f.2.2.2.2.2.1=high;generalize q.f.2.2.2.2.2.2.length=m;obtain rfl | rfl | rfl | rfl | rfl | rfl | rfl | rfl | rfl | rfl:k=1\/k=2\/k=3\/k=4\/k=5\/k=6\/k=7\/k=8\/k=9\/k=10:=by omega
 all_goals simp only[Qx9,if_true,if_false,hd',decide_true,decide_false,Bool.or_false,Bool.or_true,Qk7,Bool.true_or,Bool.not_true,Bool.not_false,Qxk,Qzq,QzB,cond_true,cond_false,or_false,or_true,false_or,true_or,hd,List.nil_eq]
 all_goals (repeat' split)
 all_goals (refine congrArg some (Qz7.2 ?_))
 all_goals clear hd hd'
 all_goals (simp only[QzQ,decide_eq_true_eq,Qxj,Qxk,Bool.not_eq_true',Bool.not_eq_true,true_iff,false_iff,iff_true,iff_false,Bool.true_eq_false,Int.natCast_eq_zero,and_true,true_and]at *)
 all_goals first | omega | exact⟨fun h=>⟨by omega,by omega,h⟩,fun h=>h.2.2⟩
theorem Sv{q:Qv}(h:Frm q=true):q.f.2.1.length<=16:=by
 unfold Frm at h;simp only[QzQ]at h;have:=h.1.1.1.1.1
 split at this
 ·simp at this;omega
 ·split at this
  ·simp at this;omega
  ·split at this
   ·simp at this;omega
   ·simp at this;simp[this]
def nt(q:Qv):Int:=if(q.f.1=3/\(q.f.2.2.2.2.1<1\/2048<q.f.2.2.2.2.1))\/(q.f.1=6/\q.f.2.2.2.2.2.1<q.f.2.2.2.2.1)then 4 else if q.f.1=4/\q.f.2.2.2.1.length=0 then 10 else if 64<q.f.2.2.2.1.length then 3 else 0
def nf(q:Qv):Int:=if 1<=q.f.1/\q.f.1<=10 then(if Frm q=true then(if wfs q.f.2.1=0 then(if(pf q.f.2.2.1).1=0 then nt q else(pf q.f.2.2.1).1)else wfs q.f.2.1)else 6)else 5
theorem ZC{q:Qv}(hl:q.f.2.2.2.2.2.2.length<=1000000000):JP q=some (nf q):=by
 unfold JP nf
 by_cases hk:1<=q.f.1/\q.f.1<=10
 ·rw[if_neg (by simp;omega),if_pos hk,Aew hl hk,Qzq]
  cases hF:Frm q with
  | false=>rfl
  | true=>
   rw[if_neg Qqc,if_pos Z];have hw:=Sv hF;unfold N0;rw[YA (ws:=q.f.2.1) (b:=Fu q) (m:=Hu q) U ?A ?B]
   ·by_cases c:wfs q.f.2.1=0
    ·rw[if_pos c,if_pos c];unfold Hu;rw[Sl,Qzq]
     by_cases a:(pf q.f.2.2.1).1=0
     ·rw[if_pos (by rw[AkT a];exact⟨Z,Z⟩),if_pos a];unfold Ht nt;clear hl hw hF c a;generalize q.f.1=k at hk ⊢;generalize q.f.2.2.2.1.length=n;generalize q.f.2.2.2.2.1=low;generalize q.f.2.2.2.2.2.1=high;simp only[QzQ,decide_eq_true_eq,Qxj]
      repeat' split
      all_goals first | rfl | (exfalso;omega)
     ·rw[if_neg (fun h=>a h.1),if_neg a]
    ·rw[if_neg c,if_neg c]
   ·intro i hi;unfold Fu;rw[if_pos U,Ac ⟨by omega,by omega⟩,Qzk,Ou,Qzq]
    by_cases a:(wf (q.f.2.1.getD i Qq2)).1=0
    ·rw[if_pos (by rw[AkS a];exact⟨Z,Z⟩),if_pos a,Ac (by constructor <;> omega)]
    ·rw[if_neg (fun h=>a h.1),if_neg a]
     rfl
   ·unfold Fu;rw[if_neg U]
 ·rw[if_pos (by simp;omega),if_neg hk]
theorem ZD{q:Qv}(hl:q.f.2.2.2.2.2.2.length<=1000000000):L7 q=some (nf q):=by
 have e:q.f.2.1.length<=16->D8 q=some (if wfs q.f.2.1=0 then(if(pf q.f.2.2.1).1=0 then nt q else(pf q.f.2.2.1).1)else wfs q.f.2.1):=fun hw=>by
  unfold D8 OQ;rw[YA (ws:=q.f.2.1) (b:=G6 q) (m:=Jf q) U ?A ?B]
  ·by_cases d:wfs q.f.2.1=0
   ·rw[if_pos d,if_pos d];unfold Jf;rw[AdZ,Qzq]
    by_cases c:(pf q.f.2.2.1).1=0
    ·rw[if_pos c,if_pos c];unfold nt;clear hl hw d c;generalize q.f.1=k;generalize q.f.2.2.2.1.length=n;generalize q.f.2.2.2.2.1=low;generalize q.f.2.2.2.2.2.1=high;simp only[QzQ,decide_eq_true_eq,Qxj,Bool.not_eq_true',decide_eq_false_iff_not]
     repeat' split
     all_goals first | rfl | (exfalso;omega)
    ·rw[if_neg c,if_neg c]
   ·rw[if_neg d,if_neg d]
  ·intro i hi;unfold G6;rw[if_pos U,Ac ⟨by omega,by omega⟩,Qzk,Z2,Qzq]
   by_cases c:(wf (q.f.2.1.getD i Qq2)).1=0
   ·rw[if_pos c,if_pos c,Ac (by constructor <;> omega)]
   ·rw[if_neg c,if_neg c]
    rfl
  ·unfold G6;rw[if_neg U]
 have g:Jg q=if Pu q=true/\q.f.1<10 then some 6 else D8 q:=by
  unfold Jg OR
  by_cases j:q.f.1<10
  ·have:=Ag6 (k:=q.f.1) hl (b:=ET q) (st:=fun i=>(i:Int)) (m:=D8 q) (y:=some 6) (fun i hi=>?_) ?_
   ·unfold Pu;simp only[j,and_true];exact this
   ·unfold ET;rw[if_pos (by simp;omega),Ac ⟨by omega,by omega⟩,Qzk,Ac (by constructor <;> omega)]
    rfl
   ·unfold ET;rw[if_neg Qqd]
  ·rw[if_neg (fun h=>j h.2)];refine AV ?_;unfold ET;rw[if_neg (by simp;omega)]
 unfold L7 nf
 by_cases hk:1<=q.f.1/\q.f.1<=10
 ·rw[if_pos hk,if_pos hk,Ac ⟨by omega,by omega⟩,Ac ⟨by omega,by omega⟩,g];have hX:Frm q=true->D8 q=_:=fun h=>e (Sv h);clear g e hl
  revert hX
  generalize (if wfs q.f.2.1=0 then(if(pf q.f.2.2.1).1=0 then nt q else(pf q.f.2.2.1).1)else wfs q.f.2.1)=r;generalize D8 q=X;have hd:∀l:Qq4,l=[]↔l.length=0:=fun l=>List.length_eq_zero_iff.symm;unfold Frm
  have hB:Pu q=true->0<q.f.2.2.2.2.2.2.length:=fun h=>by
   unfold Pu at h
   cases hs:q.f.2.2.2.2.2.2 with
   | nil=>rw[hs]at h;cases h
   | cons a l=>simp
  revert hB
  generalize Pu q=B;generalize q.f.1=k at hk ⊢;generalize q.f.2.1.length=n;simp only[hd];generalize q.f.2.2.1.length=pn;generalize q.f.2.2.2.2.1=low;generalize q.f.2.2.2.1.length=dn;generalize q.f.2.2.2.2.2.1=high;generalize q.f.2.2.2.2.2.2.length=m;intro hB hX;obtain rfl | rfl | rfl | rfl | rfl | rfl | rfl | rfl | rfl | rfl:k=1\/k=2\/k=3\/k=4\/k=5\/k=6\/k=7\/k=8\/k=9\/k=10:=by omega
  all_goals (cases B <;> simp at hX hB ⊢ <;> (repeat' split) <;> first | rfl | (exfalso;omega) | (intros;exfalso;omega) | (rw[hX] <;> omega))
 ·rw[if_neg hk,if_neg hk]
end Go.Proofs.YtopocbcekabkoaaGreatDoor
end
noncomputable section
namespace Go.Proofs.YtopocbcekabkoaaGreatDoor
open Go Go.L
def Sq(q:Qv):Prop:=∀d,Smq 1048576 d q
theorem Sq.open{q:Qv}(h:Sq q):q.f.2.1.length<=1048576/\q.f.2.2.1.length<=1048576/\q.f.2.2.2.1.length<=1048576/\q.f.2.2.2.2.2.2.length<=1048576/\(∀x∈q.f.2.1,x.length<=1048576)/\Bq q.f.2.2.2.2.1/\Bq q.f.2.2.2.2.2.1:=
 ⟨(h 1).1,(h 1).2.1,(h 1).2.2.1,(h 1).2.2.2.1,(h 1).2.2.2.2.1,(h 1).2.2.2.2.2.1,(h 1).2.2.2.2.2.2.1⟩
theorem Sq.sub{q:Qv}(h:Sq q){p:Qv}(hp:p∈q.f.2.2.2.2.2.2):Sq p:=fun d=>(h (d+1)).2.2.2.2.2.2.2 p hp
theorem Sq.len{q:Qv}(h:Sq q):q.f.2.2.2.2.2.2.length<=1000000000:=by have:=h.open.2.2.2.1;omega
def cks(f:Qv->Int->Int->Int×Qq7)(lev:Int):List Qv->Int->Int×Qq7
 | [],num=>(num,(0,0))
 | s::l,num=>if(f s num lev).2.1=0 then cks f lev l (f s num lev).1 else(0,(f s num lev).2)
def ck:Nat->Qv->Int->Int->Int×Qq7
 | 0,_,_,_=>(0,(0,0))
 | n+1,q,num,lev=>if 40<=num\/8<lev then(0,(2,num))else if nf q=0 then cks (ck n) (lev+1) q.f.2.2.2.2.2.2 (num+1)else(0,(nf q,num))
def CkP(r:Int×Qq7):Prop:=0<=r.1/\(r.2.1=0->r.2=(0,0))
theorem Ajj{f:Qv->Int->Int->Int×Qq7}{lev:Int}:∀(l:List Qv) (num:Int),0<=num->(∀s∈l,∀num,0<=num->CkP (f s num lev))->CkP (cks f lev l num)
 | [],num,h,_=>⟨h,fun _=>Z⟩
 | s::l,num,h,hf=>by
  have a:=hf s (Qz2 ..) num h;unfold cks
  split
  ·exact Ajj l _ a.1 (fun s hs=>hf s (Qz1 _ hs))
  ·exact⟨Int.le_refl _,fun e=>absurd e (by assumption)⟩
theorem Adw{l:List Qv}(hl:l.length<=1000000000){f:Qv->Int->Int->Int×Qq7}{lev:Int}{b:Int×Int->Option (Qq7⊕(Int×Qq7))}
  (hp:∀s∈l,∀num,0<=num->CkP (f s num lev))
  (a:∀(i:Nat) (num:Int),0<=num->i<l.length->b (num,(i:Int))=if(f (l.getD i Qq2) num lev).2.1=0 then some (.inl ((f (l.getD i Qq2) num lev).1,(i:Int)+1))else some (.inr (0,(f (l.getD i Qq2) num lev).2)))
  (h2:∀num,b (num,(l.length:Int))=some (.inr (num,(0,0)))) (num:Int) (hn:0<=num):Go.L.run b (num,0)=some (cks f lev l num):=by
 have key:∀(d i:Nat) (num:Int),0<=num->i+d=l.length->Go.L.run b (num,(i:Int))=some (cks f lev (l.drop i) num):=by
  intro d
  induction d with
  | zero=>
   intro i num hn hi;rw[Qxz U,show i=l.length by omega];exact AV (m:=some _) (h2 num)
  | succ d ih=>
   intro i num hn hi;have hb:=a i num hn U;have hg:l.getD i Qq2=l[i]:=by rw[Qzj,Qzy U];rfl
   rw[hg]at hb;rw[Qku U,cks]
   by_cases hw:(f l[i] num lev).2.1=0
   ·rw[if_pos hw]at hb ⊢;rw[Bh hb];exact ih (i+1) _ (hp _ (Qz3 _) num hn).1 U
   ·rw[if_neg hw]at hb ⊢;exact AV (m:=some _) hb
 exact key l.length 0 num hn U
theorem UU{l:List Qv}{i:Nat}(h:i<l.length):l.getD i Qq2∈l:=by
 rw[Qzj,Qzy h];exact Qz3 _
theorem Ag7:∀(n:Nat) (q:Qv) (num lev:Int),Sq q->0<=num->1<=lev->lev<=9->10<=lev+n->
  G3 n q num lev=some (ck n q num lev)/\EU n q num lev=some (ck n q num lev)/\CkP (ck n q num lev)
 | 0,q,num,lev,_,_,_,a,h2=>by omega
 | n+1,q,num,lev,hq,hn,g,j,k=>by
  show Jb (G3 n) q num lev=_/\Hv (EU n) q num lev=_/\_
  unfold Jb Hv ck
  by_cases b:40<=num\/8<lev
  ·rw[if_pos b,if_pos b,if_pos b];exact⟨Z,Z,by show(0:Int)<=0;omega,fun e=>by cases e⟩
  ·rw[if_neg b,if_neg b,if_neg b,ZC hq.len,ZD hq.len,Qzq,Qzq]
   by_cases a:nf q=0
   ·rw[if_pos a,if_pos a,if_pos a,Ac (by constructor <;> omega),Ac (by constructor <;> omega)]
    have ih:∀s∈q.f.2.2.2.2.2.2,∀num,0<=num->G3 n s num (lev+1)=some (ck n s num (lev+1))/\EU n s num (lev+1)=some (ck n s num (lev+1))/\CkP (ck n s num (lev+1)):=
     fun s hs num hn=>Ag7 n s num (lev+1) (hq.sub hs) hn U U U
    have hp:∀s∈q.f.2.2.2.2.2.2,∀num,0<=num->CkP (ck n s num (lev+1)):=fun s hs num hn=>(ih s hs num hn).2.2;refine⟨?_,?_,Ajj _ _ U hp⟩
    ·refine Adw hq.len hp (fun i num hn hi=>?_) (fun num=>?_) _ U
     ·unfold GD;simp only;obtain⟨c,_,d⟩:=ih _ (UU hi) num hn;rw[if_pos U,Ac ⟨by omega,by omega⟩,Qzk,Ac (by constructor <;> omega),c,Qzq]
      by_cases h2:(ck n (q.f.2.2.2.2.2.2.getD i Qq2) num (lev+1)).2.1=0
      ·rw[if_pos (by rw[d.2 h2];exact⟨Z,Z⟩),if_pos h2,Ac (by have:=hq.len;constructor <;> omega)]
      ·rw[if_neg (fun h=>h2 h.1),if_neg h2]
       rfl
     ·unfold GD;simp only;rw[if_neg U]
      rfl
    ·refine Adw hq.len hp (fun i num hn hi=>?_) (fun num=>?_) _ U
     ·unfold FC;simp only;obtain⟨_,c,d⟩:=ih _ (UU hi) num hn;rw[if_pos U,Ac ⟨by omega,by omega⟩,Qzk,Ac (by constructor <;> omega),c,Qzq]
      by_cases h2:(ck n (q.f.2.2.2.2.2.2.getD i Qq2) num (lev+1)).2.1=0
      ·rw[if_pos h2,if_pos h2,Ac (by have:=hq.len;constructor <;> omega)]
      ·rw[if_neg h2,if_neg h2]
       rfl
     ·unfold FC;simp only;rw[if_neg U]
      rfl
   ·rw[if_neg a,if_neg a,if_neg a];exact⟨Z,Z,by show(0:Int)<=0;omega,fun e=>absurd e a⟩
def Vq:Nat->Qv->Prop
 | 0,_=>False
 | n+1,q=>nf q=0/\∀s∈q.f.2.2.2.2.2.2,Vq n s
def nq:Nat->Qv->Nat
 | 0,_=>0
 | n+1,q=>1+(q.f.2.2.2.2.2.2.map (nq n)).sum
theorem Ag8{f:Qv->Int->Int->Int×Qq7}{lev:Int}{g:Qv->Nat}{V:Qv->Prop}:∀(l:List Qv) (num:Int),(∀s∈l,∀num,(f s num lev).2.1=0->(f s num lev).1=num+g s/\(f s num lev).1<=40/\V s)->num<=40->(cks f lev l num).2.1=0->
  (cks f lev l num).1=num+(l.map g).sum/\(cks f lev l num).1<=40/\∀s∈l,V s
 | [],num,_,h,_=>⟨by simp[cks],h,by simp⟩
 | s::l,num,hf,h,he=>by
  unfold cks at he ⊢;have hs:=hf s (Qz2 ..) num
  split at he
  ·rename_i a;rw[if_pos a];obtain⟨b,c,d⟩:=hs a;obtain⟨e,i,j⟩:=Ag8 l _ (fun s hs=>hf s (Qz1 _ hs)) c he;refine⟨by rw[e,b];simp;omega,i,fun x hx=>?_⟩
   rcases Qze.1 hx with rfl | hx
   ·exact d
   ·exact j x hx
  ·rename_i a;exact absurd he a
theorem Ajk:∀(n:Nat) (q:Qv) (num lev:Int),10<=lev+n->lev<=9->∀m:Nat,lev+m=9->(ck n q num lev).2.1=0->(ck n q num lev).1=num+nq m q/\(ck n q num lev).1<=40/\Vq m q
 | 0,q,num,lev,h,h',_,_=>by omega
 | n+1,q,num,lev,h,h',m,hm=>by
  unfold ck
  by_cases b:40<=num\/8<lev
  ·rw[if_pos b];intro e
   cases e
  ·rw[if_neg b]
   by_cases a:nf q=0
   ·rw[if_pos a];intro he;obtain⟨m,rfl⟩:∃k,m=k+1:=⟨m - 1,by omega⟩;obtain⟨c,d,f⟩:=Ag8 (g:=nq m) (V:=Vq m) _ (num+1) (fun s hs num he=>Ajk n s num (lev+1) U U m U he) U he;exact⟨by rw[c];unfold nq;omega,d,a,f⟩
   ·rw[if_neg a];intro e;exact absurd e a
end Go.Proofs.YtopocbcekabkoaaGreatDoor
end
noncomputable section
namespace Go.L
open Go
def hxd(n:Nat):UInt8:=([48,49,50,51,52,53,54,55,56,57,97,98,99,100,101,102]:Qq4).getD n 0
def qub(c:UInt8):Qq4:=if(32<=c.toNat/\c.toNat<=126)/\c.toNat≠39/\c.toNat≠92 then[c]else[92,hxd (c.toNat / 16),hxd (c.toNat % 16)]
def quo(l:Qq4):Qq4:=39::l.flatMap qub++[39]
theorem ZE(c:UInt8):1<=(qub c).length/\(qub c).length<=3:=by
 unfold qub
 split <;> simp
theorem X4:∀l:Qq4,(l.flatMap qub).length<=3 * l.length
 | []=>by simp
 | c::l=>by
  have a:=X4 l;have h2:=(ZE c).2;rw[QxX,Qzd,Qzc];omega
end Go.L
namespace Go.Proofs.YtopocbcekabkoaaGreatDoor
open Go Go.L
theorem Vv{n:Nat}(h:n<16):IA (n:Int)=some (hxd n):=by
 have:∀k:Fin 16,IA ((k.val:Nat):Int)=some (hxd k.val):=by
  intro k;unfold IA
  split
  ·rw[Ac (by have:=k.isLt;constructor <;> omega)]
   revert k
   decide
  ·rw[Ac (by have:=k.isLt;constructor <;> omega),Ac (by have:=k.isLt;constructor <;> omega)]
   revert k
   decide
 exact this ⟨n,h⟩
theorem YB{l:Qq4}(hl:l.length<=1000000000):MT l=some (quo l):=by
 unfold MT RQ
 have key:∀(d i:Nat) (o:Qq4),o.length<=3 * i+1->i+d=l.length->Go.L.run (GQ l) (o,(i:Int))=some (o++(l.drop i).flatMap qub++[39]):=by
  intro d
  induction d with
  | zero=>
   intro i o ho hi;rw[Qxz U];refine AV (m:=some _) ?_;unfold GQ Oo;simp only;rw[if_neg U,Ac (by constructor <;> simp <;> omega)];simp
  | succ d ih=>
   intro i o ho hi;have hg:l.getD i Qq2=l[i]:=by rw[Qzj,Qzy U];rfl
   have hb:GQ l (o,(i:Int))=some (.inl (o++qub l[i],((i+1:Nat):Int))):=by
    have a:∀b:Bool,(b=true↔((32<=l[i].toNat/\l[i].toNat<=126)/\l[i].toNat≠39/\l[i].toNat≠92))->HE l o (i:Int) b=some (.inl (o++qub l[i],((i+1:Nat):Int))):=fun b hb=>by
     have hc:l[i].toNat<256:=Qkb _;unfold HE qub;rw[Qzk,hg]
     by_cases h:b=true
     ·rw[if_pos h,if_pos (hb.1 h),Ac ⟨by omega,by omega⟩,Ac (by constructor <;> simp <;> omega),Ac (by constructor <;> omega)]
      rfl
     ·rw[if_neg h,if_neg (fun e=>h (hb.2 e)),Ac ⟨by omega,by omega⟩,Ac ⟨by omega,by omega,by omega⟩];rw[show((l[i].toNat:Nat):Int) / 16=((l[i].toNat / 16:Nat):Int) by omega,Vv U,Qzq,Ac ⟨by omega,by omega⟩,Ac ⟨by omega,by omega,by omega⟩];rw[show((l[i].toNat:Nat):Int) % 16=((l[i].toNat % 16:Nat):Int) by omega,Vv U,Qzq,Ac (by constructor <;> simp <;> omega),Ac (by constructor <;> omega)]
      rfl
    unfold GQ;simp only;rw[if_pos U,Ac ⟨by omega,by omega⟩,Ac ⟨by omega,by omega⟩,Ac ⟨by omega,by omega⟩,Qzk,hg]
    by_cases c:(32:Int)<=(l[i].toNat:Int)/\(l[i].toNat:Int)<=126
    ·rw[if_pos c]
     by_cases h2:(l[i].toNat:Int)=39
     ·rw[if_pos h2,a false (by simp;omega)]
     ·rw[if_neg h2,a _ (by simp;omega)]
    ·rw[if_neg c,a false (by simp;omega)]
   have:=(ZE l[i]).2;rw[Bh hb,ih (i+1) _ (by rw[Qzd];omega) U,Qku (by omega:i<l.length),QxX];simp
 exact key l.length 0 [39] Qqd U
theorem YC{l:Qq4}(hl:l.length<=1000000000):Kv l=some (quo l):=by
 unfold Kv PC
 have key:∀(d i:Nat) (o:Qq4),o.length<=3 * i+1->i+d=l.length->Go.L.run (F9 l) (o,(i:Int))=some (o++(l.drop i).flatMap qub++[39]):=by
  intro d
  induction d with
  | zero=>
   intro i o ho hi;rw[Qxz U];refine AV (m:=some _) ?_;unfold F9 Ml;simp only;rw[if_neg U,Ac (by constructor <;> simp <;> omega)];simp
  | succ d ih=>
   intro i o ho hi;have hg:l.getD i Qq2=l[i]:=by rw[Qzj,Qzy U];rfl
   have hb:F9 l (o,(i:Int))=some (.inl (o++qub l[i],((i+1:Nat):Int))):=by
    have hc:l[i].toNat<256:=Qkb _
    have b:(l[i] >>> (4:UInt8)).toNat=l[i].toNat / 16:=by
     have:∀n:Fin 256,(Qz8 n.val >>> (4:UInt8)).toNat=n.val / 16:=by decide +kernel
     have h:=this ⟨l[i].toNat,hc⟩
     rwa [Qje]at h
    have c:(l[i] &&& (15:UInt8)).toNat=l[i].toNat % 16:=by
     have:∀n:Fin 256,(Qz8 n.val &&& (15:UInt8)).toNat=n.val % 16:=by decide +kernel
     have h:=this ⟨l[i].toNat,hc⟩
     rwa [Qje]at h
    unfold F9 qub;simp only;rw[if_pos U,Ac ⟨by omega,by omega⟩,Qzk,hg,b,c]
    by_cases a:(32<=l[i].toNat/\l[i].toNat<=126)/\l[i].toNat≠39/\l[i].toNat≠92
    ·rw[if_neg U,if_pos a,Ac (by constructor <;> simp <;> omega),Ac (by constructor <;> omega)]
     rfl
    ·rw[if_pos U,if_neg a,Ac ⟨by omega,by simp;omega⟩,Ac ⟨by omega,by simp;omega⟩,Ac (by constructor <;> simp <;> omega),Ac (by constructor <;> omega)]
     rfl
   have:=(ZE l[i]).2;rw[Bh hb,ih (i+1) _ (by rw[Qzd];omega) U,Qku (by omega:i<l.length),QxX];simp
 exact key l.length 0 [39] Qqd U
end Go.Proofs.YtopocbcekabkoaaGreatDoor
namespace Go.Proofs.YtopocbcekabkoaaGreatDoor
open Go Go.L
theorem Tv{n:Int}(hn:Bq n):JV n=some (Lib.itoa n):=by
 unfold JV
 by_cases a:n=0
 ·subst a;rw[if_pos Z];exact congrArg some (by rw[Lib.itoa,if_neg U,Lib.decDigits,dif_pos Qqc];rfl)
 rw[if_neg a];unfold QN
 have fin:∀l:Qq4,l.length<=30->Go.L.run (EW n) (l,0)=some ((if n<0 then[45]else[])++l):=fun l hl=>by
  refine AV (m:=some _) ?_;unfold EW Nn;simp only;rw[if_pos trivial]
  by_cases hn:n<0
  ·rw[if_pos hn,if_pos hn,Ac (by constructor <;> simp <;> omega)]
  ·rw[if_neg hn,if_neg hn]
   rfl
 have key:∀(k:Nat) (s:Int) (l:Qq4),s.natAbs<10 ^ k->l.length+k<=30->Bq s->(s=0->l≠[])->Go.L.run (EW n) (l,s)=some ((if n<0 then[45]else[])++((if s=0 then[]else Lib.decDigits s.natAbs)++l)):=by
  intro k
  induction k with
  | zero=>
   intro s l hs hl hi _;obtain rfl:s=0:=by omega
   rw[fin l U,if_pos Z]
   rfl
  | succ k ih=>
   intro s l hs hl hi _
   by_cases hz:s=0
   ·subst hz;rw[fin l U,if_pos Z]
    rfl
   ·have hb:EW n (l,s)=some (.inl ([Qz8 (48+s.natAbs % 10)]++l,Int.tdiv s 10)):=by
     have b:∀d:Int,d=((s.natAbs % 10:Nat):Int)->I9 l s d=some (.inl ([Qz8 (48+s.natAbs % 10)]++l,Int.tdiv s 10)):=fun d hd=>by
      unfold I9;rw[Ac (by constructor <;> omega),Ac (by constructor <;> simp <;> omega),Ac ⟨hi.1,hi.2,by decide⟩]
      have:u8 (48+d)=Qz8 (48+s.natAbs % 10):=by
       unfold u8
       congr 1
       omega
      rw[this]
     unfold EW;simp only;rw[if_neg hz,Ac ⟨hi.1,hi.2,by decide⟩]
     have hm:Int.tmod s 10=if 0<=s then((s.natAbs % 10:Nat):Int)else -((s.natAbs % 10:Nat):Int):=by
      split
      ·rw[Int.tmod_eq_emod_of_nonneg (by assumption)];omega
      ·rw[show s = -(-s) by omega,Int.neg_tmod,Int.tmod_eq_emod_of_nonneg U];omega
     rw[hm]
     split
     ·split
      ·omega
      ·exact b _ Z
     ·split
      ·rw[Ac (by constructor <;> omega)];exact b _ U
      ·exact b _ U
    have hd:(Int.tdiv s 10).natAbs=s.natAbs / 10:=by rw[Int.natAbs_tdiv];rfl
    have hp:10 ^ (k+1)=10 * 10 ^ k:=by rw[Nat.pow_succ,Nat.mul_comm]
    have e:=hi;rw[Bh hb,ih _ _ (by rw[hd];omega) (by simp;omega) (by constructor <;> omega) Qqd,if_neg hz]
    congr 2
    have hdd:Lib.decDigits s.natAbs=if h:s.natAbs<10 then[Qz8 (48+s.natAbs)]else Lib.decDigits (s.natAbs / 10)++[Qz8 (48+s.natAbs % 10)]:=by rw[Lib.decDigits]
    rw[hdd]
    by_cases c:s.natAbs<10
    ·rw[dif_pos c,if_pos U,Nat.mod_eq_of_lt c]
     rfl
    ·rw[dif_neg c,if_neg U,hd];simp
 rw[key 19 n [] (by have:=hn.1;have:=hn.2;omega) Qqd hn (fun h=>absurd h a),if_neg a,QzZ];unfold Lib.itoa
 split
 ·rfl
 ·rw[show n.natAbs=n.toNat by omega];rfl
theorem Um{n:Int}(hn:Bq n):(Lib.itoa n).length<=30:=by
 have key:∀(k u:Nat),u<10 ^ (k+1)->(Lib.decDigits u).length<=k+1:=by
  intro k
  induction k with
  | zero=>intro u h;rw[Lib.decDigits,dif_pos (by simpa using h)];simp
  | succ k ih=>
   intro u h;rw[Lib.decDigits]
   split
   ·simp
   ·have:10 ^ (k+1+1)=10 * 10 ^ (k+1):=by rw[Nat.pow_succ,Nat.mul_comm]
    have:=ih (u / 10) U;simp;omega
 unfold Lib.itoa;have a:=hn.1;have h2:=hn.2
 split
 ·have:=key 18 n.natAbs U;simp;omega
 ·have:=key 18 n.toNat U;omega
end Go.Proofs.YtopocbcekabkoaaGreatDoor
end
noncomputable section
namespace Go.L
open Go
def par(f:Qv->Qq4)(ks:Qq5)(s:Qv):Qq4:=if s.f.1∈ks then([40]++f s)++[41]else f s
def tb(f:Qv->Qq4)(q:Qv):Qq4:=
 if q.f.1=1 then q.f.2.1.getD 0 Qq2 else if q.f.1=2 then([34]++Lib.join q.f.2.1 [32])++[34]
 else if q.f.1=3 then(((q.f.2.1.getD 0 Qq2++[126])++Lib.itoa q.f.2.2.2.2.1)++[126])++q.f.2.1.getD 1 Qq2
 else if q.f.1=4 then quo q.f.2.2.2.1 else if q.f.1=5 then[47]++q.f.2.2.1
 else if q.f.1=6 then(((([47]++q.f.2.2.1)++[61])++Lib.itoa q.f.2.2.2.2.1)++[46,46])++Lib.itoa q.f.2.2.2.2.2.1
 else if q.f.1=7 then(([47]++q.f.2.2.1)++[61])++quo q.f.2.2.2.1
 else if q.f.1=8 then Lib.join (q.f.2.2.2.2.2.2.map (par f [9])) [38]else if q.f.1=9 then Lib.join (q.f.2.2.2.2.2.2.map (par f [])) [124]
 else[33]++Lib.join (q.f.2.2.2.2.2.2.map (par f [8,9])) []
def tx:Nat->Qv->Qq4
 | 0,_=>[]
 | n+1,q=>tb (tx n) q
theorem Adx(sep:Qq4)(x:Qq4)(r:Qq8):Lib.joinTail sep (x::r)=sep++x++Lib.joinTail sep r:=by
 simp[Lib.joinTail]
theorem YD(x:Qq4)(r:Qq8):Lib.lens (x::r)=x.length+Lib.lens r:=by simp[Lib.lens]
theorem join_le(l:Qq8)(sep:Qq4):(Lib.join l sep).length<=sep.length * l.length+Lib.lens l:=by
 cases l with
 | nil=>simp[Lib.join_nil]
 | cons x r=>
  rw[Lib.join_length];have:=Nat.mul_le_mul_left sep.length (Nat.le_succ r.length);simp only[Qzc,Nat.succ_eq_add_one]at this ⊢;omega
theorem Aiy(f:Qv->Qq4)(ks:Qq5)(s:Qv):(par f ks s).length<=(f s).length+2:=by
 unfold par
 split <;> simp
end Go.L
namespace Go.Proofs.YtopocbcekabkoaaGreatDoor
open Go Go.L
theorem Ag9:∀{ws:Qq8},wfs ws=0->∀w∈ws,wf w=(0,0)
 | [],_=>by simp
 | w::l,h=>by
  unfold wfs at h
  split at h
  ·rename_i a;intro x hx
   rcases Qze.1 hx with rfl | hx
   ·exact AkS a
   ·exact Ag9 h x hx
  ·rename_i a;exact absurd h a
theorem AgA{w:Qq4}(h:wf w=(0,0)):w.length<=64:=by
 unfold wf at h
 split at h
 ·cases h
 ·omega
theorem AgB{w:Qq4}(h:pf w=(0,0)):w.length<=64:=by
 unfold pf at h
 split at h
 ·cases h
 ·omega
theorem QC{q:Qv}(h:nf q=0):(1<=q.f.1/\q.f.1<=10)/\Frm q=true/\(∀w∈q.f.2.1,wf w=(0,0))/\pf q.f.2.2.1=(0,0)/\nt q=0:=by
 unfold nf at h
 split at h
 ·rename_i b
  split at h
  ·rename_i h2
   split at h
   ·rename_i h3
    split at h
    ·rename_i a;exact⟨b,h2,Ag9 h3,AkT a,h⟩
    ·rename_i a;exact absurd h a
   ·rename_i h3;exact absurd h h3
  ·cases h
 ·cases h
theorem Wb{q:Qv}(h:nt q=0):q.f.2.2.2.1.length<=64:=by
 unfold nt at h
 split at h
 ·cases h
 ·split at h
  ·cases h
  ·split at h
   ·cases h
   ·omega
theorem K6{q:Qv}(h:Frm q=true):(q.f.1=1->q.f.2.1.length=1)/\(q.f.1=2->2<=q.f.2.1.length)/\(q.f.1=3->q.f.2.1.length=2)/\(q.f.1=10->q.f.2.2.2.2.2.2.length=1)/\(q.f.1=8\/q.f.1=9->2<=q.f.2.2.2.2.2.2.length):=by
 unfold Frm at h;simp only[QzQ]at h;obtain⟨⟨⟨⟨⟨a,_⟩,_⟩,_⟩,_⟩,b⟩:=h;refine⟨fun e=>?_,fun e=>?_,fun e=>?_,fun e=>?_,fun e=>?_⟩
 ·rw[e]at a;simpa using a
 ·rw[e]at a;simp at a;omega
 ·rw[e]at a;simpa using a
 ·rw[e]at b;simpa using b
 ·rw[if_pos e]at b;simp at b;exact b.1
theorem ZF{l:List Qv}{g:Qv->Nat}{f:Qv->Qq4}(h:∀s∈l,(f s).length+1<=3000 * g s):Lib.lens (l.map f)+l.length<=3000 * (l.map g).sum:=by
 induction l with
 | nil=>simp[Lib.lens]
 | cons a l ih=>
  have b:=h a (Qz2 ..);have:=ih fun s hs=>h s (Qz1 _ hs);simp only[Qzc,QzA,List.sum_cons,YD];omega
theorem AgC{l:Qq8}(h:∀w∈l,w.length<=64):Lib.lens l<=64 * l.length:=by
 induction l with
 | nil=>simp[Lib.lens]
 | cons a l ih=>
  have b:=h a (Qz2 ..);have:=ih fun s hs=>h s (Qz1 _ hs);simp only[Qzc,YD];omega
theorem UW{l:Qq8}(h:∀w∈l,w.length<=64)(i:Nat):(l.getD i Qq2).length<=64:=by
 rw[Qzj]
 cases e:l[i]? with
 | none=>decide
 | some w=>exact h w (List.mem_of_getElem? e)
theorem Acl:∀(d:Nat) (q:Qv),Sq q->Vq d q->(tx d q).length+3<=3000 * nq d q
 | 0,_,_,h=>h.elim
 | d+1,q,hq,hv=>by
  obtain⟨hk,hF,hw,hp,ht⟩:=QC hv.1;have hw':∀w∈q.f.2.1,w.length<=64:=fun w h=>AgA (hw w h);have hd:=Wb ht;have hp:=AgB hp;have hwn:=Sv hF
  have hs:∀ks,∀s∈q.f.2.2.2.2.2.2,(par (tx d) ks s).length+1<=3000 * nq d s:=fun ks s hs=>by
   have l:=Acl d s (hq.sub hs) (hv.2 s hs);have h2:=Aiy (tx d) ks s;omega
  have e:=Um hq.open.2.2.2.2.2.1;have g:=Um hq.open.2.2.2.2.2.2
  have hqu:(quo q.f.2.2.2.1).length<=3 * q.f.2.2.2.1.length+2:=by
   have:=X4 q.f.2.2.2.1;simp[quo]
   simpa using this
  have i:=UW hw' 0;have j:=UW hw' 1;have hwl:=AgC hw';unfold tx tb nq;have b:=join_le (q.f.2.2.2.2.2.2.map (par (tx d) [9])) [38];have c:=join_le (q.f.2.2.2.2.2.2.map (par (tx d) [])) [124];have a:=join_le (q.f.2.2.2.2.2.2.map (par (tx d) [8,9])) [];have m:=ZF (hs [9]);have n:=ZF (hs []);have k:=ZF (hs [8,9]);have j2:=join_le q.f.2.1 [32];simp only[Qza,Qzc,QzB]at b c a j2
  repeat' split
  all_goals first | omega | (simp only[Qzd,Qzc,QzB];omega)
end Go.Proofs.YtopocbcekabkoaaGreatDoor
end
noncomputable section
namespace Go.Proofs.YtopocbcekabkoaaGreatDoor
open Go Go.L
theorem Akh{l:Qq5}(hl:l.length<=1000)(a:Int):BH l a=some (decide (a∈l)):=by
 have key:∀(d i:Nat),i+d=l.length->∃r,Go.L.run (Bs l a) (i:Int)=some r/\(0<=r↔a∈l.drop i):=by
  intro d
  induction d with
  | zero=>
   intro i hi;refine⟨-1,AV (m:=some (-1)) ?_,by rw[Qxz U];simp⟩;unfold Bs DY;rw[if_neg U]
  | succ d ih=>
   intro i hi;have hil:i<l.length:=by omega
   rw[drop_cons hil]
   have hb:Bs l a (i:Int)=if a=l.getD i Qq2 then some (.inr (i:Int))else some (.inl ((i+1:Nat):Int)):=by
    unfold Bs;rw[if_pos U,Ac U,Qzk,Ac (by constructor <;> omega)]
    rfl
   by_cases h:a=l.getD i Qq2
   ·rw[if_pos h]at hb;exact⟨_,AV (m:=some (i:Int)) hb,by rw[h];simp⟩
   ·rw[if_neg h]at hb;obtain⟨r,b,h2⟩:=ih (i+1) U;refine⟨r,by rw[Bh hb,b],h2.trans ?_⟩;rw[Qze];exact⟨.inr,fun hh=>hh.resolve_left h⟩
 unfold BH Fp F2;obtain⟨r,b,h2⟩:=key l.length 0 U;rw[show((0:Nat):Int)=0 from Z]at b;rw[b,Qzq]
 congr 1
 simpa using h2
theorem AgD{l:List Qv}(hl:l.length<=2000000){f:Qv->Option Qq4}{f2:List Qv->Qq4->Qq5->Option Qq4}{g:Qv->Qq4}{sep:Qq4}{ks:Qq5}(hk:ks.length<=1000)
  (hf:∀s∈l,f s=some (g s)) (hg:∀s∈l,(g s).length<=1000000) (hj:(Lib.join (l.map (par g ks)) sep).length<=1000000):Jc f f2 l sep ks=some (Lib.join (l.map (par g ks)) sep):=by
 unfold Jc MQ
 have key:∀(d i:Nat) (o:Qq8),o.length=i->i+d=l.length->Go.L.run (DB l sep ks f) (o,(i:Int))=Vj (o++(l.drop i).map (par g ks)) sep:=by
  intro d
  induction d with
  | zero=>
   intro i o ho hi;rw[Qxz U];refine AV ?_;unfold DB J9;simp only;rw[if_neg U];simp
  | succ d ih=>
   intro i o ho hi;have hil:i<l.length:=by omega
   have hm:=UU hil;have hgl:=hg _ hm
   have hb:DB l sep ks f (o,(i:Int))=some (.inl (o++[par g ks (l.getD i Qq2)],((i+1:Nat):Int))):=by
    unfold DB GZ par;simp only;rw[if_pos U,Ac ⟨by omega,by omega⟩,Qzk,hf _ hm,Qzq,Akh hk,Qzq]
    by_cases h:(l.getD i Qq2).f.1∈ks
    ·rw[decide_eq_true h,if_pos Z,if_pos h,Ac (by simp[-Qzj];omega),Ac (by simp[-Qzj];omega),Ac (by constructor <;> simp[-Qzj] <;> omega),Ac (by constructor <;> omega)]
     rfl
    ·rw[decide_eq_false h,if_neg Qqc,if_neg h,Ac (by constructor <;> simp[-Qzj] <;> omega),Ac (by constructor <;> omega)]
     rfl
   rw[Bh hb,ih (i+1) _ (by simp[ho]) U,drop_cons hil];simp
 have:=key l.length 0 [] Z U;rw[show((0:Nat):Int)=0 from Z]at this;rw[this];unfold Vj;rw[Qxe,Qx8,Ac ⟨by rw[Qza];omega,by omega⟩]
theorem Acm{l:List Qv}(hl:l.length<=2000000){f:Qv->Option Qq4}{f2:List Qv->Qq4->Int->Int->Option Qq4}{g:Qv->Qq4}{sep:Qq4}{ks:Qq5}{c j:Int}(hk:∀s∈l,(s.f.1=c\/s.f.1=j)↔s.f.1∈ks)
  (hf:∀s∈l,f s=some (g s)) (hg:∀s∈l,(g s).length<=1000000) (hsep:sep.length<=10) (hj:(Lib.join (l.map (par g ks)) sep).length<=1000000):Jh f f2 l sep c j=some (Lib.join (l.map (par g ks)) sep):=by
 unfold Jh MU
 have k:∀(i:Nat) (o:Qq4),i<l.length->o.length<=10000000->Fx l c j (i:Int) f o=some (.inl (o++par g ks (l.getD i Qq2),((i+1:Nat):Int))):=fun i o hil ho=>by
  have hm:=UU hil;have hgl:=hg _ hm
  have n:∀b:Bool,(b=true↔(l.getD i Qq2).f.1∈ks)->Fw l (i:Int) o f b=some (.inl (o++par g ks (l.getD i Qq2),((i+1:Nat):Int))):=fun b hb=>by
   unfold Fw par;rw[Qzk,hf _ hm]
   by_cases h:b=true
   ·rw[if_pos h,if_pos (hb.1 h),Ac (by simp[-Qzj];omega),Ac ⟨by omega,by omega⟩,Qzq,Ac (by simp[-Qzj];omega),Ac (by simp[-Qzj];omega),Ac (by constructor <;> omega)];simp
   ·rw[if_neg h,if_neg (fun e=>h (hb.2 e)),Ac ⟨by omega,by omega⟩,Qzq,Ac U,Ac (by constructor <;> omega)]
    rfl
  unfold Fx;rw[Ac ⟨by omega,by omega⟩,Ac ⟨by omega,by omega⟩,Qzk]
  by_cases h:(l.getD i Qq2).f.1=c
  ·rw[if_pos h,n true (by simpa using (hk _ hm).1 (.inl h))]
  ·rw[if_neg h,n _ (by rw[decide_eq_true_eq,<- hk _ hm];exact⟨.inr,fun e=>e.resolve_left h⟩)]
 have key:∀(d i:Nat) (o:Qq4),1<=i->i+d=l.length->o.length+(Lib.joinTail sep ((l.drop i).map (par g ks))).length<=1000000->Go.L.run (Cg l sep c j f) (o,(i:Int))=some (o++Lib.joinTail sep ((l.drop i).map (par g ks))):=by
  intro d
  induction d with
  | zero=>
   intro i o ho hi _;rw[Qxz U];refine AV (m:=some _) ?_;unfold Cg Hh;simp only;rw[if_neg U];simp[Lib.joinTail]
  | succ d ih=>
   intro i o ho hi hlen;have hil:i<l.length:=by omega
   rw[drop_cons hil,QzA,Adx]at hlen ⊢;rw[Qzd,Qzd]at hlen
   have hb:Cg l sep c j f (o,(i:Int))=some (.inl ((o++sep)++par g ks (l.getD i Qq2),((i+1:Nat):Int))):=by
    unfold Cg;simp only;rw[if_pos U,if_pos U,Ac U,k i _ hil (by simp[-Qzj];omega)]
   rw[Bh hb,ih (i+1) _ U U (by simp;simp at hlen;omega)];simp
 cases l with
 | nil=>
  refine AV (m:=some _) ?_;unfold Cg Hh;simp only;rw[if_neg Qqd]
  rfl
 | cons a r=>
  have hb:Cg (a::r) sep c j f ([],0)=some (.inl (par g ks a,1)):=by
   unfold Cg;simp only;rw[if_pos Qqd,if_neg U];exact k 0 [] Qqd Qqd
  rw[QzA,Lib.join_cons]at hj ⊢;rw[Qzd]at hj;rw[Bh hb];exact key r.length 1 _ U (by simp[-Qzj];omega) (by simpa using hj)
theorem Acn{q:Qv}(hw:∀w∈q.f.2.1,w.length<=64)(hl:q.f.2.1.length<=16)(a:1<=q.f.2.1.length):Iw q (q.f.2.1.getD 0 Qq2,1)=some (([34]++Lib.join q.f.2.1 [32])++[34]):=by
 unfold Iw
 have key:∀(d i:Nat) (o:Qq4),i+d=q.f.2.1.length->o.length<=65 * i->Go.L.run (Db q) (o,(i:Int))=some (([34]++(o++Lib.joinTail [32] (q.f.2.1.drop i)))++[34]):=by
  intro d
  induction d with
  | zero=>
   intro i o hi ho;rw[Qxz U];refine AV (m:=some _) ?_;unfold Db Iv;simp only;rw[if_neg U,Ac (by simp[-Qzj];omega),Ac (by simp[-Qzj];omega)];simp[Lib.joinTail]
  | succ d ih=>
   intro i o hi ho;have hil:i<q.f.2.1.length:=by omega
   have hwl:=UW hw i;rw[drop_cons hil,Adx]
   have hb:Db q (o,(i:Int))=some (.inl ((o++[32])++q.f.2.1.getD i Qq2,((i+1:Nat):Int))):=by
    unfold Db;simp only;rw[if_pos U,Ac (by simp[-Qzj];omega),Ac ⟨by omega,by omega⟩,Qzk,Ac (by simp[-Qzj];omega),Ac (by constructor <;> omega)]
    rfl
   rw[Bh hb,ih (i+1) _ U (by simp[-Qzj];omega)];simp
 obtain⟨w,r,hwr⟩:=Qjj (List.ne_nil_of_length_pos a);have hwl:=UW hw 0;have:=key (q.f.2.1.length - 1) 1 (q.f.2.1.getD 0 Qq2) U U;rw[show((1:Nat):Int)=1 from Z]at this;rw[this,hwr,Lib.join_cons]
 rfl
theorem Aiz{q:Qv}{f:Qv->Qq4}(hq:Sq q)(hn:nf q=0)(ht:(tb f q).length<=1000000){s1:Qv->Option Qq4}{b:List Qv->Qq4->Qq5->Option Qq4}{r1:Qv->Option Qq4}{r2:List Qv->Qq4->Int->Int->Option Qq4}
  (g:q.f.1=8->b q.f.2.2.2.2.2.2 [38] [9]=some (tb f q)/\r2 q.f.2.2.2.2.2.2 [38] 9 0=some (tb f q)) (i:q.f.1=9->b q.f.2.2.2.2.2.2 [124] []=some (tb f q)/\r2 q.f.2.2.2.2.2.2 [124] 0 0=some (tb f q))
  (d:q.f.1=10->b q.f.2.2.2.2.2.2 [] [8,9]=some (Lib.join (q.f.2.2.2.2.2.2.map (par f [8,9])) [])/\r2 q.f.2.2.2.2.2.2 [] 8 9=some (Lib.join (q.f.2.2.2.2.2.2.map (par f [8,9])) [])) :
  JQ s1 b q=some (tb f q)/\Hw r1 r2 q=some (tb f q):=by
 obtain⟨hk,hF,hw,hp,hnt⟩:=QC hn;have hw':∀w∈q.f.2.1,w.length<=64:=fun w h=>AgA (hw w h);have hd:=Wb hnt;have hp:=AgB hp;have hwn:=Sv hF;obtain⟨f1,f2,f3,_⟩:=K6 hF;have a:=hq.open.2.2.2.2.2.1;have c:=hq.open.2.2.2.2.2.2;have l:=Um a;have m:=Um c;have n:=UW hw' 0;have o:=UW hw' 1;have hwl:=AgC hw';have j2:=join_le q.f.2.1 [32];simp only[Qzc,QzB]at j2;have j:Vl q.f.2.2.2.2.1=some (Lib.itoa q.f.2.2.2.2.1):=by unfold Vl;rw[Ac ⟨a.1,a.2⟩]
 have k:Vl q.f.2.2.2.2.2.1=some (Lib.itoa q.f.2.2.2.2.2.1):=by unfold Vl;rw[Ac ⟨c.1,c.2⟩]
 have hqu:(quo q.f.2.2.2.1).length<=3 * q.f.2.2.2.1.length+2:=by
  have:=X4 q.f.2.2.2.1;simp[quo]
  simpa using this
 unfold JQ Hw Ix;obtain e | e | e | e | e | e | e | e | e | e:q.f.1=1\/q.f.1=2\/q.f.1=3\/q.f.1=4\/q.f.1=5\/q.f.1=6\/q.f.1=7\/q.f.1=8\/q.f.1=9\/q.f.1=10:=by omega
 ·have:=f1 e;simp only[tb,e,if_true];rw[Ac ⟨by omega,by omega⟩];exact⟨Z,Z⟩
 ·have:=f2 e;simp only[tb,e,Qx9,if_true,if_false]
  constructor
  ·unfold Vj;rw[Ac ⟨by omega,by omega⟩,Qzq,Ac (by simp[-Qzj];omega),Ac (by simp[-Qzj];omega)]
  ·rw[Ac ⟨by omega,by omega⟩];exact Acn hw' hwn U
 ·have:=f3 e;simp only[tb,e,Qx9,if_true,if_false];rw[j,Tv a];simp only[Qzq]
  constructor
  all_goals (rw[Ac ⟨by omega,by omega⟩,Ac (by simp[-Qzj];omega),Ac (by simp[-Qzj];omega),Ac (by simp[-Qzj];omega),Ac ⟨by omega,by omega⟩,Ac (by simp[-Qzj];omega)];rfl)
 ·simp only[tb,e,Qx9,if_true,if_false];rw[YC U,YB U];exact⟨Z,Z⟩
 ·simp only[tb,e,Qx9,if_true,if_false];rw[Ac (by simp[-Qzj];omega)];exact⟨Z,Z⟩
 ·simp only[tb,e,Qx9,if_true,if_false];rw[j,k,Tv a,Tv c];simp only[Qzq]
  constructor
  all_goals (rw[Ac (by simp[-Qzj];omega),Ac (by simp[-Qzj];omega),Ac (by simp[-Qzj];omega),Ac (by simp[-Qzj];omega),Ac (by simp[-Qzj];omega)])
 ·simp only[tb,e,Qx9,if_true,if_false];rw[YC U,YB U];simp only[Qzq]
  constructor
  all_goals (rw[Ac (by simp[-Qzj];omega),Ac (by simp[-Qzj];omega),Ac (by simp[-Qzj];omega)])
 ·simp only[e,Qx9,if_true,if_false];rw[(g e).1,(g e).2];exact⟨Z,Z⟩
 ·simp only[e,Qx9,if_true,if_false];rw[(i e).1,(i e).2];exact⟨Z,Z⟩
 ·simp only[tb,e,Qx9,if_true,if_false,Qzd]at ht ⊢;rw[(d e).1,(d e).2];simp only[Qzq];rw[Ac U];exact⟨Z,Z⟩
theorem Ai0{l:List Qv}{g:Qv->Nat}{s:Qv}(h:s∈l):g s<=(l.map g).sum:=by
 induction l with
 | nil=>cases h
 | cons a l ih=>
  rw[QzA,List.sum_cons]
  rcases Qze.1 h with rfl | h
  ·omega
  ·have:=ih h;omega
theorem AgE:∀(d:Nat) (q:Qv),Sq q->Vq d q->nq d q<=200->∀n,2 * d<=n->(C0 n).1 q=some (tx d q)/\(BW n).1 q=some (tx d q)
 | 0,_,_,h,_,_,_=>h.elim
 | d+1,q,hq,hv,hc,n,hn=>by
  obtain⟨n,rfl⟩:∃m,n=m+2:=⟨n - 2,by omega⟩;have hlen:=Acl (d+1) q hq hv;have hsl:=hq.open.2.2.2.1
  have hsum:∀s∈q.f.2.2.2.2.2.2,nq d s<=200:=fun s hs=>by
   have:nq d s<=(q.f.2.2.2.2.2.2.map (nq d)).sum:=Ai0 hs;unfold nq at hc;omega
  have ih:∀s∈q.f.2.2.2.2.2.2,(C0 n).1 s=some (tx d s)/\(BW n).1 s=some (tx d s):=fun s hs=>AgE d s (hq.sub hs) (hv.2 s hs) (hsum s hs) n U
  have hgl:∀s∈q.f.2.2.2.2.2.2,(tx d s).length<=1000000:=fun s hs=>by
   have:=Acl d s (hq.sub hs) (hv.2 s hs);have:=hsum s hs;omega
  have a:∀s∈q.f.2.2.2.2.2.2,1<=s.f.1:=fun s hs=>by
   have:=hv.2 s hs
   cases d with
   | zero=>exact this.elim
   | succ d=>exact(QC this.1).1.1
  have ht:(tb (tx d) q).length<=1000000:=by
   show(tx (d+1) q).length<=_
   omega
  have hT:∀sep ks,ks.length<=1000->(Lib.join (q.f.2.2.2.2.2.2.map (par (tx d) ks)) sep).length<=1000000->(C0 (n+1)).2 q.f.2.2.2.2.2.2 sep ks=some (Lib.join (q.f.2.2.2.2.2.2.map (par (tx d) ks)) sep):=fun sep ks hk hj=>AgD (f2:=(C0 n).2) U hk (fun s hs=>(ih s hs).1) hgl hj
  have hB:∀sep ks b c,(∀s∈q.f.2.2.2.2.2.2,(s.f.1=b\/s.f.1=c)↔s.f.1∈ks)->sep.length<=10->(Lib.join (q.f.2.2.2.2.2.2.map (par (tx d) ks)) sep).length<=1000000->(BW (n+1)).2 q.f.2.2.2.2.2.2 sep b c=some (Lib.join (q.f.2.2.2.2.2.2.map (par (tx d) ks)) sep):=
   fun sep ks b c hk hs hj=>Acm (f2:=(BW n).2) U hk (fun s hs=>(ih s hs).2) hgl hs hj
  refine Aiz (s1:=(C0 (n+1)).1) (r1:=(BW (n+1)).1) hq hv.1 ht (fun e=>?_) (fun e=>?_) (fun e=>?_)
  ·simp only[tb,e,Qx9,if_true,if_false]at ht ⊢;exact⟨hT _ _ Qqd ht,hB _ [9] _ _ (fun s hs=>by have:=a s hs;simp;omega) Qqd ht⟩
  ·simp only[tb,e,Qx9,if_true,if_false]at ht ⊢;exact⟨hT _ _ Qqd ht,hB _ [] _ _ (fun s hs=>by have:=a s hs;simp;omega) Qqd ht⟩
  ·simp only[tb,e,Qx9,if_true,if_false,Qzd]at ht;exact⟨hT _ _ Qqd U,hB _ [8,9] _ _ (fun s hs=>by simp) Qqd U⟩
end Go.Proofs.YtopocbcekabkoaaGreatDoor
end
